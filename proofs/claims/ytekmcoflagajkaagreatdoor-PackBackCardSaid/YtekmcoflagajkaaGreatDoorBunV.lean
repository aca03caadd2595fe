/- States in memory; what fits. No program in sight. -/
import Derived.Test.YtekmcoflagajkaaGreatDoorBunS
import Derived.Test.YtekmcoflagajkaaGreatDoorBunU
import Derived.Laws.OwnMore
namespace Go.Proofs.YtekmcoflagajkaaGreatDoor
open Go.RowKit

/-- A thread's state. -/
structure Thr where
  pc : Int
  r0 : Int
  r1 : Int
  r2 : Int
  r3 : Int
  buf : List (Int × Int)
def Thr.cells (x : Thr) (a : Option Addr) (k : Nat) : List Value := [.int .i64 x.pc, .int .i64 x.r0, .int .i64 x.r1, .int .i64 x.r2, .int .i64 x.r3, .slice a x.buf.length k]
def Thr.zero : Thr := ⟨0, 0, 0, 0, 0, []⟩

/-- Threads' states lie where a slice leads. -/
def ThrIn (w : World) (S : Nat → Prop) (a : Option Addr) (n cap : Nat) (l : List Thr) : Prop :=
  n = l.length ∧ ∃ (A : Nat → Option Addr) (K : Nat → Nat), Sl w S 6 a l.length cap (fun i => (l[i]?.getD .zero).cells (A i) (K i)) ∧ ∀ i (h : i < l.length), EnIn w S (A i) l[i].buf.length (K i) l[i].buf
namespace ThrIn
variable {w w' : World} {S S' : Nat → Prop} {a : Option Addr} {n cap : Nat} {l : List Thr}
theorem keep (h : ThrIn w S a n cap l) (hk : ∀ b o, S b → w'.cell? ⟨b, o, none⟩ = w.cell? ⟨b, o, none⟩) : ThrIn w' S a n cap l := by
  obtain ⟨hn, A, K, h1, h2⟩ := h
  exact ⟨hn, A, K, h1.keep hk, fun i hi => (h2 i hi).keep hk⟩
theorem widen (h : ThrIn w S a n cap l) (hS : ∀ b, S b → S' b) : ThrIn w S' a n cap l := by
  obtain ⟨hn, A, K, h1, h2⟩ := h
  exact ⟨hn, A, K, h1.widen hS, fun i hi => (h2 i hi).widen hS⟩
theorem le (h : ThrIn w S a n cap l) : l.length ≤ cap := by obtain ⟨_, _, _, h1, _⟩ := h; exact h1.le
theorem mx (h : ThrIn w S a n cap l) : cap ≤ maxLen := by obtain ⟨_, _, _, h1, _⟩ := h; exact h1.mx
theorem at_ (h : ThrIn w S a n cap l) (i : Nat) (hi : i < l.length) : ∃ b off ar kr, a = some ⟨b, off, none⟩ ∧ S b ∧
    (w.cell? ⟨b, off + i * 6, none⟩ = some (.int .i64 l[i].pc) ∧ w.cell? ⟨b, off + i * 6 + 1, none⟩ = some (.int .i64 l[i].r0) ∧ w.cell? ⟨b, off + i * 6 + 2, none⟩ = some (.int .i64 l[i].r1)) ∧
    (w.cell? ⟨b, off + i * 6 + 3, none⟩ = some (.int .i64 l[i].r2) ∧ w.cell? ⟨b, off + i * 6 + 4, none⟩ = some (.int .i64 l[i].r3) ∧ w.cell? ⟨b, off + i * 6 + 5, none⟩ = some (.slice ar l[i].buf.length kr)) ∧
    EnIn w S ar l[i].buf.length kr l[i].buf := by
  obtain ⟨hn, A, K, h1, h2⟩ := h
  obtain ⟨b, off, rfl, hb, hc⟩ := h1.at_ (by omega)
  have g := fun j hj => hc i hi j hj
  simp only [List.getElem?_eq_getElem hi, Option.getD_some, Thr.cells] at g
  refine ⟨b, off, A i, K i, rfl, hb, ⟨?_, ?_, ?_⟩, ⟨?_, ?_, ?_⟩, h2 i hi⟩
  · simpa using g 0 (by omega)
  · simpa [Nat.add_assoc] using g 1 (by omega)
  · simpa [Nat.add_assoc] using g 2 (by omega)
  · simpa [Nat.add_assoc] using g 3 (by omega)
  · simpa [Nat.add_assoc] using g 4 (by omega)
  · simpa [Nat.add_assoc] using g 5 (by omega)
theorem nil_ : ThrIn w S none 0 0 [] := ⟨rfl, fun _ => none, fun _ => 0, Sl.nil, fun i hi => absurd hi (by simp)⟩
end ThrIn
theorem Kp.thr {W0 w : World} (h : Kp W0 w) {a : Option Addr} {n cap : Nat} {l : List Thr} (hx : ThrIn W0 (In_ W0) a n cap l) : ThrIn w (In_ w) a n cap l := (hx.keep fun b o hb => h.2 b o hb).widen (In_.mono h.1.size)

/-- May a machine run code? -/
def mayL (vars dom : Int) (t : List (List Ins)) (m b : Int) : Bool := rightL vars dom t && decide (0 ≤ m) && decide (m ≤ 2) && decide (1 ≤ b) && decide (b ≤ 8)
/-- Is a number below the domain? -/
def inL (dom n : Int) : Bool := decide (0 ≤ n) && decide (n < dom)
/-- Can a store wait behind those ahead of it? -/
def waitL (vars dom m b : Int) (l : List (Int × Int)) (k : Nat) : Bool :=
  match l[k]? with
  | some x => (putL m b x (l.take k)).2 && inL vars x.1 && inL dom x.2
  | none => true
def waitsL (vars dom m b : Int) (l : List (Int × Int)) : Bool := (List.range l.length).all fun k => waitL vars dom m b l k
/-- Does a thread's state fit, of so many instructions? -/
def thrL (vars dom m b : Int) (x : Thr) (many : Nat) : Bool :=
  decide (0 ≤ x.pc) && decide (x.pc ≤ many) && (inL dom x.r0 && inL dom x.r1 && inL dom x.r2 && inL dom x.r3) && waitsL vars dom m b x.buf
def fitsL (vars dom : Int) (t : List (List Ins)) (m b : Int) (th : List Thr) (mem : List Int) : Bool :=
  mayL vars dom t m b && decide (th.length = t.length) && decide ((mem.length : Int) = vars) && (mem.all fun n => inL dom n) && (List.range th.length).all fun i => thrL vars dom m b (th[i]?.getD .zero) (t[i]?.getD []).length

theorem putL_snd (m b : Int) (x : Int × Int) (l : List (Int × Int)) (h : (putL m b x l).2 = true) : (putL m b x l).1 = l ++ [x] := by
  unfold putL at h ⊢
  split
  · rename_i hc
    rw [if_pos hc] at h
    cases h
  · rfl
theorem range_snoc (f : Nat → Bool) (k : Nat) : (List.range (k + 1)).all f = ((List.range k).all f && f k) := by
  rw [List.range_succ, List.all_append]
  simp
theorem range_false (f : Nat → Bool) (n k : Nat) (hk : k < n) (h : f k = false) : (List.range n).all f = false := by
  rw [List.all_eq_false]
  exact ⟨k, List.mem_range.2 hk, by simp [h]⟩
end Go.Proofs.YtekmcoflagajkaaGreatDoor
namespace Go.Proofs.YtekmcoflagajkaaGreatDoor

def pairsL (n : Nat) (M : List Int) : List (Int × Int) := (List.range n).map fun k => (M.getD (2 * k) 0, M.getD (2 * k + 1) 0)
theorem pairsL_len (n : Nat) (M : List Int) : (pairsL n M).length = n := by unfold pairsL; simp
theorem pairsL_snoc (n : Nat) (M : List Int) : pairsL (n + 1) M = pairsL n M ++ [(M.getD (2 * n) 0, M.getD (2 * n + 1) 0)] := by
  unfold pairsL
  rw [List.range_succ, List.map_append]
  rfl
/-- A thread's state out of bytes, and what is behind. -/
def takeThr (L : List Int) : Option (Thr × List Int) :=
  if L.length < 7 then none
  else if L.length < 7 + 2 * (L.getD 6 0).toNat then none
  else some (⟨256 * L.getD 0 0 + L.getD 1 0, L.getD 2 0, L.getD 3 0, L.getD 4 0, L.getD 5 0, pairsL (L.getD 6 0).toNat (L.drop 7)⟩, L.drop (7 + 2 * (L.getD 6 0).toNat))
theorem takeThr_short {L : List Int} (h : L.length < 7) : takeThr L = none := by
  unfold takeThr
  rw [if_pos h]
theorem takeThr_few {L : List Int} {n : Nat} (hn : L.getD 6 0 = (n : Int)) (h : L.length < 7 + 2 * n) : takeThr L = none := by
  unfold takeThr
  rw [hn, Int.toNat_natCast]
  by_cases h0 : L.length < 7
  · rw [if_pos h0]
  · rw [if_neg h0, if_pos h]
theorem takeThr_ok {L : List Int} {n : Nat} (hn : L.getD 6 0 = (n : Int)) (h : 7 + 2 * n ≤ L.length) :
    takeThr L = some (⟨256 * L.getD 0 0 + L.getD 1 0, L.getD 2 0, L.getD 3 0, L.getD 4 0, L.getD 5 0, pairsL n (L.drop 7)⟩, L.drop (7 + 2 * n)) := by
  unfold takeThr
  rw [hn, Int.toNat_natCast, if_neg (by omega), if_neg (by omega)]
def takeThrs : Nat → List Int → Option (List Thr × List Int)
  | 0, L => some ([], L)
  | k + 1, L => match takeThrs k L with
    | some (C, r) => match takeThr r with
      | some (x, r') => some (C ++ [x], r')
      | none => none
    | none => none
theorem takeThrs_none {k n : Nat} {L : List Int} (h : takeThrs k L = none) (hk : k ≤ n) : takeThrs n L = none := by
  obtain ⟨d, rfl⟩ := Nat.exists_eq_add_of_le hk
  clear hk
  induction d with
  | zero => exact h
  | succ d ih => show takeThrs (k + d + 1) L = none; unfold takeThrs; rw [ih]
theorem takeThrs_step {k : Nat} {L r r' : List Int} {C : List Thr} {x : Thr} (h : takeThrs k L = some (C, r)) (hx : takeThr r = some (x, r')) : takeThrs (k + 1) L = some (C ++ [x], r') := by
  unfold takeThrs
  rw [h]
  simp only [hx]
theorem takeThrs_stop {k : Nat} {L r : List Int} {C : List Thr} (h : takeThrs k L = some (C, r)) (hx : takeThr r = none) : takeThrs (k + 1) L = none := by
  unfold takeThrs
  rw [h]
  simp only [hx]
theorem takeThrs_len : ∀ {k : Nat} {L r : List Int} {C : List Thr}, takeThrs k L = some (C, r) → C.length = k
  | 0, L, r, C, h => by
    unfold takeThrs at h
    cases h
    rfl
  | k + 1, L, r, C, h => by
    unfold takeThrs at h
    cases h1 : takeThrs k L with
    | none => rw [h1] at h; cases h
    | some p =>
      obtain ⟨C1, r1⟩ := p
      rw [h1] at h
      simp only at h
      cases h2 : takeThr r1 with
      | none => rw [h2] at h; cases h
      | some q =>
        obtain ⟨x, r2⟩ := q
        rw [h2] at h
        simp only [Option.some.injEq, Prod.mk.injEq] at h
        obtain ⟨rfl, rfl⟩ := h
        rw [List.length_append, takeThrs_len h1]
        rfl
/-- A state out of bytes. -/
def unpL (vars threads : Nat) (L : List Int) : Option (Bool × List Int × List Thr) :=
  if L.length < 1 + vars then none
  else if 1 < L.getD 0 0 then none
  else match takeThrs threads (L.drop (1 + vars)) with
    | some (C, []) => some (L.getD 0 0 == 1, (L.take (1 + vars)).drop 1, C)
    | _ => none
/-- What Unpack tells: whether bad, memory, threads; the error. -/
def unpS (vars dom : Int) (t : List (List Ins)) (m b : Int) (L : List Int) : (Bool × List Int × List Thr) × Int :=
  if mayL vars dom t m b then
    match unpL vars.toNat t.length L with
    | some (bad, mem, th) => if fitsL vars dom t m b th mem then ((bad, mem, th), 0) else ((false, [], []), 60)
    | none => ((false, [], []), 60)
  else ((false, [], []), 1)
theorem unpS_may {vars dom : Int} {t : List (List Ins)} {m b : Int} {L : List Int} (h : mayL vars dom t m b = false) : unpS vars dom t m b L = ((false, [], []), 1) := by
  unfold unpS
  rw [h]
  rfl
theorem unpS_none {vars dom : Int} {t : List (List Ins)} {m b : Int} {L : List Int} (h : mayL vars dom t m b = true) (hu : unpL vars.toNat t.length L = none) : unpS vars dom t m b L = ((false, [], []), 60) := by
  unfold unpS
  rw [h, hu]
  rfl
theorem unpS_fit {vars dom : Int} {t : List (List Ins)} {m b : Int} {L : List Int} {bad : Bool} {mem : List Int} {th : List Thr} (h : mayL vars dom t m b = true) (hu : unpL vars.toNat t.length L = some (bad, mem, th)) :
    unpS vars dom t m b L = if fitsL vars dom t m b th mem then ((bad, mem, th), 0) else ((false, [], []), 60) := by
  unfold unpS
  rw [h, hu]
  rfl
theorem unpL_short {vars n : Nat} {L : List Int} (h : L.length < 1 + vars) : unpL vars n L = none := by
  unfold unpL
  rw [if_pos h]
theorem unpL_big {vars n : Nat} {L : List Int} (h : 1 < L.getD 0 0) : unpL vars n L = none := by
  unfold unpL
  by_cases h0 : L.length < 1 + vars
  · rw [if_pos h0]
  · rw [if_neg h0, if_pos h]
theorem unpL_none {vars n : Nat} {L : List Int} (h : takeThrs n (L.drop (1 + vars)) = none) : unpL vars n L = none := by
  unfold unpL
  by_cases h0 : L.length < 1 + vars
  · rw [if_pos h0]
  rw [if_neg h0]
  by_cases h1 : 1 < L.getD 0 0
  · rw [if_pos h1]
  rw [if_neg h1]
  rw [h]
theorem unpL_left {vars n : Nat} {L r : List Int} {C : List Thr} (h : takeThrs n (L.drop (1 + vars)) = some (C, r)) (hr : r ≠ []) : unpL vars n L = none := by
  unfold unpL
  by_cases h0 : L.length < 1 + vars
  · rw [if_pos h0]
  rw [if_neg h0]
  by_cases h1 : 1 < L.getD 0 0
  · rw [if_pos h1]
  rw [if_neg h1]
  rw [h]
  cases r with
  | nil => exact absurd rfl hr
  | cons => rfl
theorem unpL_some {vars n : Nat} {L : List Int} {C : List Thr} (h0 : 1 + vars ≤ L.length) (h1 : L.getD 0 0 ≤ 1) (h : takeThrs n (L.drop (1 + vars)) = some (C, [])) : unpL vars n L = some (L.getD 0 0 == 1, (L.take (1 + vars)).drop 1, C) := by
  unfold unpL
  rw [if_neg (by omega), if_neg (by omega), h]
theorem may_facts {vars dom : Int} {t : List (List Ins)} {m b : Int} (h : mayL vars dom t m b = true) : 1 ≤ vars ∧ vars ≤ 4 ∧ 1 ≤ t.length ∧ t.length ≤ 4 := by
  unfold mayL rightL at h
  simp only [Bool.and_eq_true, decide_eq_true_eq] at h
  omega
end Go.Proofs.YtekmcoflagajkaaGreatDoor
namespace Go.Proofs.YtekmcoflagajkaaGreatDoor

/-- byte(n) -/
def by8 (n : Int) : Int := n % 256
def bufB (l : List (Int × Int)) : List Int := l.flatMap fun e => [by8 e.1, by8 e.2]
def thrB (x : Thr) : List Int := [by8 (x.pc / 256), by8 x.pc] ++ [by8 x.r0, by8 x.r1, by8 x.r2, by8 x.r3] ++ [by8 x.buf.length] ++ bufB x.buf
/-- A state's bytes. -/
def packB (th : List Thr) (mem : List Int) (bad : Bool) : List Int := [if bad then 1 else 0] ++ mem.map by8 ++ th.flatMap thrB
theorem by8_eq (n : Int) : by8 n = n % 256 := rfl
theorem by8_mod (n : Int) : by8 (n % 256) = by8 n := by
  rw [by8_eq, by8_eq]
  omega
theorem bufB_snoc (l : List (Int × Int)) (k : Nat) (h : k < l.length) : bufB (l.take (k + 1)) = bufB (l.take k) ++ [by8 l[k].1, by8 l[k].2] := by
  unfold bufB
  rw [List.take_succ_eq_append_getElem h, List.flatMap_append]
  simp
theorem thrB_snoc (l : List Thr) (k : Nat) (h : k < l.length) : (l.take (k + 1)).flatMap thrB = (l.take k).flatMap thrB ++ thrB l[k] := by
  rw [List.take_succ_eq_append_getElem h, List.flatMap_append]
  simp
theorem map_snoc (l : List Int) (k : Nat) (h : k < l.length) : (l.take (k + 1)).map by8 = (l.take k).map by8 ++ [by8 l[k]] := by
  rw [List.take_succ_eq_append_getElem h, List.map_append]
  rfl
theorem bufB_len (l : List (Int × Int)) : (bufB l).length = 2 * l.length := by
  unfold bufB
  induction l with
  | nil => rfl
  | cons e l ih => simp only [List.flatMap_cons, List.length_append, List.length_cons, List.length_nil, ih]; omega
theorem packB_pos (th : List Thr) (mem : List Int) (bad : Bool) : 0 < (packB th mem bad).length := by
  unfold packB
  simp only [List.length_append, List.length_cons, List.length_nil]
  omega
theorem thrB_len (x : Thr) (h : x.buf.length ≤ 1000) : (thrB x).length ≤ 2007 := by
  unfold thrB
  simp only [List.length_append, List.length_cons, List.length_nil, bufB_len]
  omega
theorem flat_len (l : List Thr) (h : ∀ x ∈ l, x.buf.length ≤ 1000) : (l.flatMap thrB).length ≤ 2007 * l.length := by
  induction l with
  | nil => simp
  | cons x l ih =>
    have h1 := thrB_len x (h x (by simp))
    have h2 := ih fun y hy => h y (by simp [hy])
    simp only [List.flatMap_cons, List.length_append, List.length_cons]
    omega
end Go.Proofs.YtekmcoflagajkaaGreatDoor
namespace Go.Proofs.YtekmcoflagajkaaGreatDoor

def BytesL (L : List Int) : Prop := ∀ x ∈ L, 0 ≤ x ∧ x < 256
theorem by8_id {x : Int} (h : 0 ≤ x ∧ x < 256) : by8 x = x := by rw [by8_eq]; omega
theorem bytesL_at {L : List Int} (h : BytesL L) (i : Nat) : 0 ≤ L.getD i 0 ∧ L.getD i 0 < 256 := by
  rcases Nat.lt_or_ge i L.length with hi | hi
  · rw [← List.getElem_eq_getD (h := hi) 0]
    exact h _ (List.getElem_mem hi)
  · rw [List.getD_eq_getElem?_getD, List.getElem?_eq_none hi]
    exact ⟨by decide, by decide⟩
theorem bytesL_drop {L : List Int} (h : BytesL L) (n : Nat) : BytesL (L.drop n) := fun x hx => h x (List.mem_of_mem_drop hx)
theorem bufB_append (a b : List (Int × Int)) : bufB (a ++ b) = bufB a ++ bufB b := by unfold bufB; rw [List.flatMap_append]
theorem bufB_pairs {M : List Int} (hM : BytesL M) : ∀ n, 2 * n ≤ M.length → bufB (pairsL n M) = M.take (2 * n)
  | 0, _ => by simp [pairsL, bufB]
  | n + 1, h => by
    rw [pairsL_snoc, bufB_append, bufB_pairs hM n (by omega)]
    have e1 := by8_id (bytesL_at hM (2 * n))
    have e2 := by8_id (bytesL_at hM (2 * n + 1))
    have e3 : bufB [(M.getD (2 * n) 0, M.getD (2 * n + 1) 0)] = [M[2 * n], M[2 * n + 1]] := by
      show [by8 _, by8 _] ++ [] = _
      rw [e1, e2, ← List.getElem_eq_getD (h := (by omega : 2 * n < M.length)) 0, ← List.getElem_eq_getD (h := (by omega : 2 * n + 1 < M.length)) 0]
      rfl
    have t1 : M.take (2 * n + 1 + 1) = M.take (2 * n + 1) ++ [M[2 * n + 1]] := List.take_succ_eq_append_getElem (by omega)
    have t2 : M.take (2 * n + 1) = M.take (2 * n) ++ [M[2 * n]] := List.take_succ_eq_append_getElem (by omega)
    rw [e3, show 2 * (n + 1) = 2 * n + 1 + 1 by omega, t1, t2, List.append_assoc]
    rfl
theorem list_seven {L : List Int} (h : 7 ≤ L.length) : ∃ a0 a1 a2 a3 a4 a5 a6 M, L = a0 :: a1 :: a2 :: a3 :: a4 :: a5 :: a6 :: M := by
  match L, h with
  | a0 :: a1 :: a2 :: a3 :: a4 :: a5 :: a6 :: M, _ => exact ⟨a0, a1, a2, a3, a4, a5, a6, M, rfl⟩
theorem takeThr_inv {L r : List Int} {x : Thr} (hL : BytesL L) (h : takeThr L = some (x, r)) : L = thrB x ++ r ∧ x.buf.length ≤ 255 := by
  unfold takeThr at h
  by_cases h0 : L.length < 7
  · rw [if_pos h0] at h; cases h
  rw [if_neg h0] at h
  by_cases h1 : L.length < 7 + 2 * (L.getD 6 0).toNat
  · rw [if_pos h1] at h; cases h
  rw [if_neg h1] at h
  simp only [Option.some.injEq, Prod.mk.injEq] at h
  obtain ⟨rfl, rfl⟩ := h
  obtain ⟨a0, a1, a2, a3, a4, a5, a6, M, rfl⟩ := list_seven (L := L) (by omega)
  have b := fun i => bytesL_at hL i
  have b0 := b 0
  have b1 := b 1
  have b2 := b 2
  have b3 := b 3
  have b4 := b 4
  have b5 := b 5
  have b6 := b 6
  simp only [List.getD_cons_zero, List.getD_cons_succ] at b0 b1 b2 b3 b4 b5 b6 h1 ⊢
  have hM : BytesL M := fun x hx => hL x (by simp [hx])
  obtain ⟨n, hn⟩ : ∃ n : Nat, a6 = n := ⟨a6.toNat, by omega⟩
  subst hn
  simp only [Int.toNat_natCast] at h1 ⊢
  have hd : (a0 :: a1 :: a2 :: a3 :: a4 :: a5 :: (n : Int) :: M).drop (7 + 2 * n) = M.drop (2 * n) := by
    rw [← List.drop_drop]
    rfl
  have hd7 : (a0 :: a1 :: a2 :: a3 :: a4 :: a5 :: (n : Int) :: M).drop 7 = M := rfl
  have hlen : 2 * n ≤ M.length := by simp only [List.length_cons] at h1; omega
  rw [hd, hd7]
  refine ⟨?_, by simp only [pairsL_len]; omega⟩
  unfold thrB
  simp only [bufB_pairs hM n hlen, pairsL_len]
  rw [by8_id b2, by8_id b3, by8_id b4, by8_id b5, by8_id b6]
  have e1 : by8 ((256 * a0 + a1) / 256) = a0 := by rw [by8_eq]; omega
  have e2 : by8 (256 * a0 + a1) = a1 := by rw [by8_eq]; omega
  rw [e1, e2]
  simp
theorem takeThrs_inv : ∀ {k : Nat} {L r : List Int} {C : List Thr}, BytesL L → takeThrs k L = some (C, r) → L = C.flatMap thrB ++ r ∧ BytesL r ∧ ∀ x ∈ C, x.buf.length ≤ 255
  | 0, L, r, C, hL, h => by
    unfold takeThrs at h
    cases h
    exact ⟨rfl, hL, fun _ h => by cases h⟩
  | k + 1, L, r, C, hL, h => by
    unfold takeThrs at h
    cases h1 : takeThrs k L with
    | none => rw [h1] at h; cases h
    | some p =>
      obtain ⟨C1, r1⟩ := p
      rw [h1] at h
      simp only at h
      cases h2 : takeThr r1 with
      | none => rw [h2] at h; cases h
      | some q =>
        obtain ⟨x, r2⟩ := q
        rw [h2] at h
        simp only [Option.some.injEq, Prod.mk.injEq] at h
        obtain ⟨rfl, rfl⟩ := h
        obtain ⟨e1, e2, e3⟩ := takeThrs_inv hL h1
        obtain ⟨e4, e5⟩ := takeThr_inv e2 h2
        refine ⟨by rw [e1, e4]; simp, fun y hy => e2 y (by rw [e4]; exact List.mem_append_right _ hy), fun y hy => ?_⟩
        rcases List.mem_append.1 hy with hy | hy
        · exact e3 y hy
        · simp at hy; subst hy; exact e5
/-- Bytes of which a state is made are the state's bytes. -/
theorem unpL_inv {vars n : Nat} {L : List Int} {bad : Bool} {mem : List Int} {C : List Thr} (hL : BytesL L) (h : unpL vars n L = some (bad, mem, C)) : packB C mem bad = L ∧ (∀ x ∈ C, x.buf.length ≤ 255) ∧ C.length = n ∧ mem.length = vars := by
  unfold unpL at h
  by_cases h0 : L.length < 1 + vars
  · rw [if_pos h0] at h; cases h
  rw [if_neg h0] at h
  by_cases h1 : 1 < L.getD 0 0
  · rw [if_pos h1] at h; cases h
  rw [if_neg h1] at h
  cases h2 : takeThrs n (L.drop (1 + vars)) with
  | none => rw [h2] at h; cases h
  | some q =>
    obtain ⟨C', r⟩ := q
    rw [h2] at h
    cases r with
    | cons => simp only at h; cases h
    | nil =>
      simp only [Option.some.injEq, Prod.mk.injEq] at h
      obtain ⟨rfl, rfl, rfl⟩ := h
      obtain ⟨e1, -, e3⟩ := takeThrs_inv (bytesL_drop hL _) h2
      rcases L with _ | ⟨a, L⟩
      · simp at h0
      have ha := hL a (by simp)
      simp only [List.getD_cons_zero] at h1 ⊢
      have e5 : (if (a == 1) = true then (1 : Int) else 0) = a := by
        by_cases e : a = 1
        · subst e; rfl
        · have : (a == 1) = false := by simpa using e
          rw [this]; simp; omega
      rw [Nat.add_comm] at e1 ⊢
      simp only [List.drop_succ_cons, List.take_succ_cons, List.drop_zero] at e1 ⊢
      refine ⟨?_, e3, takeThrs_len h2, by simp only [List.length_take, List.length_cons] at h0 ⊢; omega⟩
      unfold packB
      have e6 : (L.take vars).map by8 = L.take vars := by
        refine (List.map_congr_left fun x hx => ?_).trans (List.map_id _)
        exact by8_id (hL x (by simp [List.mem_of_mem_take hx]))
      rw [e5, e6]
      rw [List.append_nil] at e1
      rw [← e1]
      simp
end Go.Proofs.YtekmcoflagajkaaGreatDoor
namespace Go.Proofs.YtekmcoflagajkaaGreatDoor
open Go.RowKit

/-- Cell j of element i of a row whose elements have sz cells each. -/
theorem flat_at3 {α : Type} (f : α → List Value) (sz : Nat) (hf : ∀ x, (f x).length = sz) : ∀ (l : List α) (i j : Nat) (hi : i < l.length), j < sz → (l.flatMap f)[i * sz + j]? = (f l[i])[j]?
  | [], i, j, hi, _ => by simp at hi
  | x :: l, 0, j, _, hj => by
    simp only [List.flatMap_cons, Nat.zero_mul, Nat.zero_add, List.getElem_cons_zero]
    rw [List.getElem?_append_left (by rw [hf]; exact hj)]
  | x :: l, i + 1, j, hi, hj => by
    have ih := flat_at3 f sz hf l i j (by simpa using hi) hj
    simp only [List.flatMap_cons, List.getElem_cons_succ]
    rw [List.getElem?_append_right (by rw [hf, Nat.succ_mul]; omega), hf, ← ih]
    congr 1
    rw [Nat.succ_mul]; omega
theorem flat_size3 {α : Type} (f : α → List Value) (sz : Nat) (hf : ∀ x, (f x).length = sz) (l : List α) : (l.flatMap f).length = l.length * sz := by
  induction l with
  | nil => simp
  | cons x l ih => simp only [List.flatMap_cons, List.length_append, hf, ih, List.length_cons, Nat.succ_mul]; omega
/-- A row of the call's own, element by element. -/
theorem Sl.of_own {α : Type} (f : α → List Value) (sz : Nat) (hf : ∀ x, (f x).length = sz) {w : World} {base : Nat} {T : TypeId} {v : Value} {l : List α} (h : w.ownsRow base T sz v l.length (l.flatMap f)) :
    ∃ a cap, v = .slice a l.length cap ∧ Sl w (fun b => base ≤ b ∧ b < w.heap.size) sz a l.length cap (fun i => match l[i]? with | some x => f x | none => []) := by
  have h' := h
  obtain ⟨_, h⟩ := h
  rcases h with ⟨rfl, h0⟩ | ⟨g, cap, cur, rfl, hb, hg, hle, hcm, hsz, htk⟩
  · exact ⟨none, 0, by rw [h0], by omega, Nat.zero_le _, fun hp => absurd hp (by omega)⟩
  · refine ⟨some ⟨g, 0, none⟩, cap, rfl, hle, hcm, fun _ => ⟨g, 0, rfl, ⟨hb, (Array.getElem?_eq_some_iff.1 hg).1⟩, fun i hi j hj => ?_⟩⟩
    have hfl := flat_at3 f sz hf l i j hi hj
    simp only [List.getElem?_eq_getElem hi]
    have hlt : j < (f l[i]).length := by rw [hf]; exact hj
    rw [List.getElem?_eq_getElem hlt] at hfl ⊢
    have := h'.cells (g := g) rfl _ _ hfl
    have hadd : (⟨g, 0, none⟩ : Addr).add (i * sz + j) = ⟨g, 0 + (i * sz + j), none⟩ := by
      unfold Addr.add
      split
      · rename_i h; rw [h]
      · simp
    rwa [hadd] at this

theorem thr_info : (Tryz.prog.info? 64).map (fun i => (i.zero, i.size, i.bytes)) = some (some (.agg #[.int .i64 0, .int .i64 0, .int .i64 0, .int .i64 0, .int .i64 0, .slice none 0 0]), 6, 64) := by kernel_rfl

/-- A thread's cells. -/
def thC (y : Thr × Option Addr × Nat) : List Value := y.1.cells y.2.1 y.2.2
theorem thC_len (y : Thr × Option Addr × Nat) : (thC y).length = 6 := rfl
theorem thC_one (l : List (Thr × Option Addr × Nat)) : ∀ u ∈ l.flatMap thC, u.oneCell' = true := by
  intro u hu
  obtain ⟨x, _, hx⟩ := List.mem_flatMap.1 hu
  simp [thC, Thr.cells] at hx
  rcases hx with rfl | rfl | rfl | rfl | rfl | rfl <;> rfl

/-- append of one thread's state. -/
theorem list_th {ops : Array Oper} {rest : List Oper} {o : Oper} {a : Act} {w : World} {base : Nat} {Q : Exit → Act → World → Prop} (s x : Operand) (v : Value) (n : Nat) (xs : List Value) (m : Nat) (news : List Value)
    (hgd : o.guard = none) (ho : o.op = .call { callee := .builtin .append, args := #[s, x], argTypes := #[32, 32] })
    (hsv : a.eval s = v) (hown : w.ownsRow base 64 6 v n xs) (hsrc : ∃ A c, a.eval x = .slice A m c ∧ SrcAt w 6 A m news) (h1 : ∀ u ∈ news, u.oneCell' = true) (hb : n + m ≤ 100000) (hbase : base ≤ w.heap.size)
    (h : ∀ v' w', w'.ownsRow base 64 6 v' (n + m) (xs ++ news) → w.grownBy w' v.ownBlock → (v'.ownBlock = v.ownBlock ∨ v'.ownBlock = some w.heap.size) → wpList Tryz.prog ops Q rest (a.put o.dst v') w') :
    wpList Tryz.prog ops Q (o :: rest) a w := by
  obtain ⟨i0, hi, hz0, hz1, hz2⟩ := info_parts thr_info
  exact list_app hgd s x ho Tryz.underlying32 hi hz0 hz1 hz2 rfl (by decide) v n xs hsv hown m news hsrc h1 (by simp only [maxLen]; omega) (by omega) hbase h
theorem step_th {ops : Array Oper} {o : Oper} {a : Act} {w : World} {base : Nat} {K : Act → World → Prop} {Q : Exit → Act → World → Prop} {E : Prop} (s x : Operand) (v : Value) (n : Nat) (xs : List Value) (m : Nat) (news : List Value)
    (hgd : o.guard = none) (ho : o.op = .call { callee := .builtin .append, args := #[s, x], argTypes := #[32, 32] })
    (hsv : a.eval s = v) (hown : w.ownsRow base 64 6 v n xs) (hsrc : ∃ A c, a.eval x = .slice A m c ∧ SrcAt w 6 A m news) (h1 : ∀ u ∈ news, u.oneCell' = true) (hb : n + m ≤ 100000) (hbase : base ≤ w.heap.size)
    (h : ∀ v' w', w'.ownsRow base 64 6 v' (n + m) (xs ++ news) → w.grownBy w' v.ownBlock → (v'.ownBlock = v.ownBlock ∨ v'.ownBlock = some w.heap.size) → K (a.put o.dst v') w') :
    if Region.wanted o (yielded ops a.tmps) = true then Oper.wp Tryz.prog o a w K Q else E := by
  obtain ⟨i0, hi, hz0, hz1, hz2⟩ := info_parts thr_info
  exact step_app hgd s x ho Tryz.underlying32 hi hz0 hz1 hz2 rfl (by decide) v n xs hsv hown m news hsrc h1 (by simp only [maxLen]; omega) (by omega) hbase h

theorem grown_set (w : World) (b o : Nat) (u : Value) : w.grownBy (w.setCell ⟨b, o, none⟩ u) (some b) :=
  ⟨rfl, rfl, rfl, by simp [World.setCell], fun k _ hk => Below.heap_setCell _ _ _ _ (fun e => hk (by rw [e]))⟩
theorem grown_trans {a b c : World} {r : Option Nat} (h : a.grownBy b r) (k : b.grownBy c r) : a.grownBy c r :=
  ⟨k.os.trans h.os, k.tape.trans h.tape, k.output.trans h.output, Nat.le_trans h.size k.size, fun i hi hr => (k.block i (Nat.lt_of_lt_of_le hi h.size) hr).trans (h.block i hi hr)⟩
/-- What came later than w is free to be written. -/
theorem grown_new {a b c : World} {r : Option Nat} (h : a.grownBy b r) {q : Option Nat} (k : b.grownBy c q) (hq : ∀ n, q = some n → a.heap.size ≤ n) : a.grownBy c r :=
  ⟨k.os.trans h.os, k.tape.trans h.tape, k.output.trans h.output, Nat.le_trans h.size k.size, fun i hi hr => (k.block i (Nat.lt_of_lt_of_le hi h.size) (fun e => by have := hq i e.symm; omega)).trans (h.block i hi hr)⟩
theorem grown_alloc {a b : World} {r : Option Nat} (h : a.grownBy b r) (o : Obj) : a.grownBy (b.alloc o) r :=
  ⟨h.os, h.tape, h.output, by have := h.size; simp; omega, fun i hi hr => (Below.heap_alloc _ _ _ (Nat.lt_of_lt_of_le hi h.size)).trans (h.block i hi hr)⟩
theorem grown_drew {a b : World} {r : Option Nat} (h : a.grownBy b r) : a.grownBy b.drew r := ⟨h.os, h.tape, h.output, h.size, h.block⟩
theorem grown_pre {w w6 : World} {o : Obj} {r : Option Nat} (h : ((w.alloc o).drew).grownBy w6 r) : w.grownBy w6 r :=
  ⟨h.os, h.tape, h.output, by have := h.size; simp at this; omega, fun k hk hr => (h.block k (by simp; omega) hr).trans (Below.heap_alloc _ _ _ hk)⟩
theorem grown_pre' {w w6 : World} {o : Obj} {r : Option Nat} (h : (w.alloc o).grownBy w6 r) : w.grownBy w6 r :=
  ⟨h.os, h.tape, h.output, by have := h.size; simp at this; omega, fun k hk hr => (h.block k (by simp; omega) hr).trans (Below.heap_alloc _ _ _ hk)⟩
theorem at_pre {w : World} {o : Obj} {a b : Option Nat} (h : a = b ∨ a = some (w.alloc o).heap.size) : a = b ∨ ∃ n, a = some n ∧ w.heap.size ≤ n := by
  rcases h with h | h
  · exact .inl h
  · exact .inr ⟨_, h, by simp⟩
theorem grown_below {a b : World} {r : Option Nat} (h : a.grownBy b r) {n : Nat} (hn : n ≤ a.heap.size) (hr : ∀ k, r = some k → n ≤ k) : Below n a b :=
  ⟨h.os, h.tape, h.output, h.size, fun k hk => h.block k (by omega) (fun e => by have := hr k e.symm; omega)⟩
theorem below_grown {a b : World} (h : Below a.heap.size a b) (r : Option Nat) : a.grownBy b r := ⟨h.os, h.tape, h.output, h.size, fun k hk _ => h.block k hk⟩

/-- A state's box. -/
structure SBox (w : World) (sb : Nat) (v mv : Value) (bad : Bool) : Prop where
  lt : sb < w.heap.size
  c0 : w.cell? ⟨sb, 0, none⟩ = some v
  c1 : w.cell? ⟨sb, 1, none⟩ = some mv
  c2 : w.cell? ⟨sb, 2, none⟩ = some (.bool bad)
  f0 : ∀ o, w.frozen? ⟨sb, o, none⟩ = false
theorem SBox.block {w w' : World} {sb : Nat} {v mv : Value} {bad : Bool} (h : SBox w sb v mv bad) (hs : w.heap.size ≤ w'.heap.size) (hb : w'.heap[sb]? = w.heap[sb]?) : SBox w' sb v mv bad :=
  ⟨Nat.lt_of_lt_of_le h.lt hs, (World.cell?_of_block (w := w) (a := ⟨sb, 0, none⟩) hb).trans h.c0, (World.cell?_of_block (w := w) (a := ⟨sb, 1, none⟩) hb).trans h.c1, (World.cell?_of_block (w := w) (a := ⟨sb, 2, none⟩) hb).trans h.c2,
    fun o => (World.frozen?_of_block (w := w) (a := ⟨sb, o, none⟩) hb).trans (h.f0 o)⟩
theorem SBox.grown {w w' : World} {sb : Nat} {v mv : Value} {bad : Bool} {r : Option Nat} (h : SBox w sb v mv bad) (hg : w.grownBy w' r) (hr : r ≠ some sb) : SBox w' sb v mv bad :=
  h.block hg.size (hg.block sb h.lt fun e => hr e.symm)

/-- Where the buffers of threads lie that have been collected: not in the row itself. -/
def Sx (w : World) (B : Nat) (v : Value) : Nat → Prop := fun b => B ≤ b ∧ b < w.heap.size ∧ v.ownBlock ≠ some b
/-- Threads' states that have been collected. -/
def ThO (w : World) (B : Nat) (v : Value) (L : List Thr) : Prop :=
  ∃ LL : List (Thr × Option Addr × Nat), L = LL.map (·.1) ∧ w.ownsRow B 64 6 v LL.length (LL.flatMap thC) ∧ ∀ y ∈ LL, EnIn w (Sx w B v) y.2.1 y.1.buf.length y.2.2 y.1.buf
theorem ThO.nil {w : World} {B : Nat} : ThO w B (.slice none 0 0) [] := ⟨[], rfl, World.ownsRow_nil _ _ _ _, fun _ h => (by simp at h)⟩
theorem ThO.own {w : World} {B : Nat} {v : Value} {L : List Thr} (h : ThO w B v L) : ∀ k, v.ownBlock = some k → B ≤ k ∧ k < w.heap.size := by
  obtain ⟨LL, _, h1, _⟩ := h
  exact h1.lt
/-- Kept while other blocks are written. -/
theorem ThO.grown {w w' : World} {B : Nat} {v : Value} {L : List Thr} {r : Option Nat} (h : ThO w B v L) (hg : w.grownBy w' r) (hr : ∀ k, r = some k → k < B) : ThO w' B v L := by
  obtain ⟨LL, h0, h1, h2⟩ := h
  refine ⟨LL, h0, h1.kept hg ?_, fun y hy => ?_⟩
  · rcases hv : v.ownBlock with _ | k
    · exact .inl rfl
    · right
      intro e
      have := h1.lt k hv
      have := hr k e.symm
      omega
  · refine ((h2 y hy).keep fun b o hb => ?_).widen fun b hb => ⟨hb.1, Nat.lt_of_lt_of_le hb.2.1 hg.size, hb.2.2⟩
    exact World.cell?_of_block (w := w) (a := ⟨b, o, none⟩) (hg.block b hb.2.1 (fun e => by have := hr b e.symm; have := hb.1; omega))
/-- Kept while blocks are written that came later. -/
theorem ThO.later {w w' : World} {B n : Nat} {v : Value} {L : List Thr} (h : ThO w B v L) (hg : Below n w w') (hn : w.heap.size ≤ n) : ThO w' B v L := by
  obtain ⟨LL, h0, h1, h2⟩ := h
  have hg' : w.grownBy w' none := ⟨hg.os, hg.tape, hg.output, hg.size, fun k hk _ => hg.block k (by omega)⟩
  refine ⟨LL, h0, h1.kept hg' ?_, fun y hy => ?_⟩
  · rcases hv : v.ownBlock with _ | k
    · exact .inl rfl
    · exact .inr (by simp)
  · refine ((h2 y hy).keep fun b o hb => ?_).widen fun b hb => ⟨hb.1, Nat.lt_of_lt_of_le hb.2.1 hg.size, hb.2.2⟩
    exact hg.cell (p := ⟨b, o, none⟩) (by have := hb.2.1; show b < n; omega)
/-- Behind append of one more, whose buffer lies in the call's own blocks. -/
theorem ThO.app {w w' : World} {B : Nat} {v v' : Value} {LL : List (Thr × Option Addr × Nat)} {x : Thr} {ar : Option Addr} {kr : Nat}
    (h1 : w'.ownsRow B 64 6 v' (LL.length + 1) (LL.flatMap thC ++ thC (x, ar, kr))) (hg : w.grownBy w' v.ownBlock) (hat : v'.ownBlock = v.ownBlock ∨ ∃ n, v'.ownBlock = some n ∧ w.heap.size ≤ n)
    (h2 : ∀ y ∈ LL, EnIn w (Sx w B v) y.2.1 y.1.buf.length y.2.2 y.1.buf) (hx : EnIn w (Sx w B v) ar x.buf.length kr x.buf) : ThO w' B v' (LL.map (·.1) ++ [x]) := by
  have key : ∀ {a : Option Addr} {n c : Nat} {l : List (Int × Int)}, EnIn w (Sx w B v) a n c l → EnIn w' (Sx w' B v') a n c l := fun he => by
    refine (he.keep fun b o hb => ?_).widen fun b hb => ⟨hb.1, Nat.lt_of_lt_of_le hb.2.1 hg.size, ?_⟩
    · exact World.cell?_of_block (w := w) (a := ⟨b, o, none⟩) (hg.block b hb.2.1 (fun e => hb.2.2 e.symm))
    · rcases hat with e | ⟨n, e, hn⟩
      · rw [e]; exact hb.2.2
      · rw [e]; intro h; have := hb.2.1; simp at h; omega
  refine ⟨LL ++ [(x, ar, kr)], by simp, by simpa using h1, fun y hy => ?_⟩
  rcases List.mem_append.1 hy with hy | hy
  · exact key (h2 y hy)
  · simp at hy
    subst hy
    exact key hx
theorem ThO.in_ {w : World} {B : Nat} {v : Value} {L : List Thr} (h : ThO w B v L) : ∃ a cap, v = .slice a L.length cap ∧ ThrIn w (fun b => B ≤ b ∧ b < w.heap.size) a L.length cap L := by
  obtain ⟨LL, rfl, h1, h2⟩ := h
  obtain ⟨a, cap, rfl, hs⟩ := Sl.of_own thC 6 thC_len h1
  refine ⟨a, cap, by simp, rfl, fun i => (LL[i]?.map (·.2.1)).getD none, fun i => (LL[i]?.map (·.2.2)).getD 0, ?_, fun i hi => ?_⟩
  · have hs' := hs
    rw [List.length_map]
    refine ⟨hs'.le, hs'.mx, fun h0 => ?_⟩
    obtain ⟨b, off, e, hb, hc⟩ := hs'.at_ h0
    refine ⟨b, off, e, hb, fun i hi j hj => ?_⟩
    rw [hc i hi j hj]
    simp only [List.getElem?_eq_getElem hi, List.getElem?_map, Option.map_some, Option.getD_some]
    rfl
  · have hi' : i < LL.length := by simpa using hi
    have := h2 LL[i] (List.getElem_mem hi')
    simp only [List.getElem?_eq_getElem hi', Option.map_some, Option.getD_some, List.getElem_map]
    exact this.widen fun b hb => ⟨hb.1, hb.2.1⟩
end Go.Proofs.YtekmcoflagajkaaGreatDoor
namespace Go.Proofs.YtekmcoflagajkaaGreatDoor
open Go.RowKit

/-- The text that is left, in its box. -/
structure StB (w : World) (B : Nat) (L : List Int) : Prop where
  lt : B < w.heap.size
  fz : w.frozen? ⟨B, 0, none⟩ = false
  at_ : ∃ s : ByteArray, w.cell? ⟨B, 0, none⟩ = some (.string s) ∧ bytL s = L ∧ s.size ≤ 100000
theorem frozen_put {w : World} {tb o : Nat} {a : Addr} {u : Value} (h : w.frozen? ⟨tb, o, none⟩ = false) : (w.setCell a u).frozen? ⟨tb, o, none⟩ = false := by go_simp
theorem StB.block {w w' : World} {B : Nat} {L : List Int} (h : StB w B L) (hs : w.heap.size ≤ w'.heap.size) (hb : w'.heap[B]? = w.heap[B]?) : StB w' B L := by
  obtain ⟨s, h1, h2⟩ := h.at_
  exact ⟨Nat.lt_of_lt_of_le h.lt hs, (World.frozen?_of_block (w := w) (a := ⟨B, 0, none⟩) hb).trans h.fz, s, (World.cell?_of_block (w := w) (a := ⟨B, 0, none⟩) hb).trans h1, h2⟩
theorem StB.alloc {w : World} {B : Nat} {L : List Int} (h : StB w B L) (o : Obj) : StB (w.alloc o) B L := h.block (by simp) (Below.heap_alloc _ _ _ h.lt)
theorem StB.drew {w : World} {B : Nat} {L : List Int} (h : StB w B L) : StB w.drew B L := ⟨h.lt, h.fz, h.at_⟩
theorem StB.grown {w w' : World} {B : Nat} {L : List Int} {r : Option Nat} (h : StB w B L) (hg : w.grownBy w' r) (hr : r ≠ some B) : StB w' B L := h.block hg.size (hg.block B h.lt fun e => hr e.symm)
theorem StB.set {w : World} {B b o : Nat} {L : List Int} {u : Value} (h : StB w B L) (hb : B ≠ b) : StB (w.setCell ⟨b, o, none⟩ u) B L := h.block (by simp [World.setCell]) (Below.heap_setCell _ _ _ _ hb)

/-- Too few bytes. -/
abbrev shortP : Ending := .panicked [{ v := .iface 71 (.agg #[]), recovered := false }]
def NextPost (w : World) (B : Nat) (L : List Int) (e : Ending) (w' : World) : Prop :=
  match L with
  | [] => e = shortP ∧ w = w'
  | x :: r => e = .returned (.int .i64 x) ∧ StB w' B r ∧ w.grownBy w' (some B) ∧ w'.heap.size = w.heap.size

set_option maxHeartbeats 2000000 in
theorem next_any (B : Nat) (L : List Int) (w : World) (h : StB w B L) :
    Calls Tryz.prog 49 #[.pointer (some ⟨B, 0, none⟩)] w (NextPost w B L) := by
  obtain ⟨hlt, hf, s, hc, hL, hs⟩ := h
  have hb : bytL s = s.toList.map fun c => (c.toNat : Int) := by unfold bytL; rw [Lib.toList_data]
  have hlen := bytL_len s
  cases L with
  | nil =>
    have he : s.toList.isEmpty = true := by
      rw [hb] at hL
      rw [List.map_eq_nil_iff.1 hL]
      rfl
    have hpost : Hid (NextPost w B [] shortP w) := ⟨rfl, rfl⟩
    clear hL hb hlen
    go_enter Tryz.func49, Tryz.ntmps49
    go_wp2_with fail
    exact ⟨rfl, hpost.out⟩
  | cons x r =>
    have h0 : 0 < s.size := by rw [← hlen, hL]; simp
    have he : s.toList.isEmpty = false := by
      cases hx : s.toList with
      | nil => rw [hb, hx] at hL; cases hL
      | cons => rfl
    have hx : x = s[0].toNat := by
      have := bytL_get s 0 h0
      simp only [hL, List.getElem_cons_zero] at this
      exact this
    have hr : bytL (s.extract 1 s.size) = r := by rw [bytL_drop, hL]; rfl
    have hsz : (s.extract 1 s.size).size ≤ 100000 := by
      have := bytL_len (s.extract 1 s.size)
      rw [hr] at this
      rw [hL] at hlen
      simp at hlen
      omega
    have hpost : Hid (NextPost w B (x :: r) (.returned (.int .i64 s[0].toNat)) (w.setCell ⟨B, 0, none⟩ (.string (s.extract 1 s.size)))) := by
      refine ⟨by rw [hx], ⟨by simpa [World.setCell] using hlt, frozen_put hf, _, by go_simp, hr, hsz⟩, grown_set _ _ _ _, by simp [World.setCell]⟩
    have b1 : (s[0].toNat : Int) < 256 := by have := s[0].toNat_lt; omega
    have b0 : (0 : Int) ≤ s[0].toNat := by omega
    have i0 : (0 : Int) < s.size := by omega
    have i1 : (1 : Int) ≤ s.size := by omega
    clear hL hb hlen hx hr hsz
    go_enter Tryz.func49, Tryz.ntmps49
    go_wp2_with fail
    go_ret
    exact hpost.out

set_option maxHeartbeats 2000000 in
theorem left_any (B : Nat) (L : List Int) (w : World) (h : StB w B L) :
    Calls Tryz.prog 50 #[.pointer (some ⟨B, 0, none⟩)] w fun e w' => e = .returned (.int .i64 L.length) ∧ w = w' := by
  obtain ⟨hlt, hf, s, hc, hL, hs⟩ := h
  have hlen := hid (bytL_len s)
  have hL := hid hL
  go_enter Tryz.func50, Tryz.ntmps50
  go_wp2_with fail
  go_ret
  exact ⟨ret_int (by rw [← hL.out, hlen.out]), rfl⟩

/-- The function value that takes the next byte. -/
def nxV (B : Nat) : Value := .func (.func 49) #[] #[.pointer (some ⟨B, 0, none⟩)]
def lfV (B : Nat) : Value := .func (.func 50) #[] #[.pointer (some ⟨B, 0, none⟩)]

set_option maxHeartbeats 2000000 in
theorem taker_any (s : ByteArray) (w : World) :
    Calls Tryz.prog 28 #[.string s] w fun e w' => e = .returned (.tuple #[.func (.func 49) #[] #[.pointer (some ⟨w.heap.size, 0, none⟩)], .func (.func 50) #[] #[.pointer (some ⟨w.heap.size, 0, none⟩)]]) ∧ w' = w.alloc (.cells #[.string s] 9) := by
  have hmf : ∀ (fn : Fn) (first cap : Array Value) (w : World), (Instr.makeFunc fn first cap).run Tryz.prog w = .ok (.func fn first cap) w := fun _ _ _ _ => rfl
  go_enter Tryz.func28, Tryz.ntmps28
  go_wp2_with fail
  go_ret2
  exact ⟨rfl, rfl⟩
end Go.Proofs.YtekmcoflagajkaaGreatDoor
namespace Go.Proofs.YtekmcoflagajkaaGreatDoor
open Go.RowKit

/-- A thread's state of a row of the call's own: where it lies, and what becomes of the row when it is written. -/
theorem ThO.at_ {w : World} {B : Nat} {v : Value} {L : List Thr} (h : ThO w B v L) (i : Nat) (hi : i < L.length) :
    ∃ g cap a k, v = .slice (some ⟨g, 0, none⟩) L.length cap ∧ (L.length ≤ cap ∧ cap ≤ maxLen) ∧ (B ≤ g ∧ g < w.heap.size) ∧
      (w.cell? ⟨g, i * 6, none⟩ = some (.int .i64 L[i].pc) ∧ w.cell? ⟨g, i * 6 + 1, none⟩ = some (.int .i64 L[i].r0) ∧ w.cell? ⟨g, i * 6 + 2, none⟩ = some (.int .i64 L[i].r1)) ∧
      (w.cell? ⟨g, i * 6 + 3, none⟩ = some (.int .i64 L[i].r2) ∧ w.cell? ⟨g, i * 6 + 4, none⟩ = some (.int .i64 L[i].r3) ∧ w.cell? ⟨g, i * 6 + 5, none⟩ = some (.slice a L[i].buf.length k)) ∧
      (∀ j, w.frozen? ⟨g, j, none⟩ = false) ∧ EnIn w (Sx w B v) a L[i].buf.length k L[i].buf ∧
      (∀ (j : Nat) (u : Value) (x : Thr), j < 5 → x.buf = L[i].buf → x.cells a k = (L[i].cells a k).set j u → ThO (w.setCell ⟨g, i * 6 + j, none⟩ u) B v (L.set i x) ∧ w.grownBy (w.setCell ⟨g, i * 6 + j, none⟩ u) (some g)) ∧
      (∀ (a' : Option Addr) (k' : Nat) (l : List (Int × Int)), EnIn w (Sx w B v) a' l.length k' l → ThO (w.setCell ⟨g, i * 6 + 5, none⟩ (.slice a' l.length k')) B v (L.set i { L[i] with buf := l }) ∧ w.grownBy (w.setCell ⟨g, i * 6 + 5, none⟩ (.slice a' l.length k')) (some g)) := by
  obtain ⟨LL, rfl, h1, h2⟩ := h
  have hi' : i < LL.length := by simpa using hi
  obtain ⟨g, cap, hv, hle, hcm, hb, hg⟩ : ∃ g cap, v = .slice (some ⟨g, 0, none⟩) LL.length cap ∧ LL.length ≤ cap ∧ cap ≤ maxLen ∧ B ≤ g ∧ g < w.heap.size := by
    have h' := h1
    obtain ⟨_, h⟩ := h'
    rcases h with ⟨e, h0⟩ | ⟨g, cap, cur, e, hb, hg, hle, hcm, -⟩
    · omega
    · exact ⟨g, cap, e, hle, hcm, hb, (Array.getElem?_eq_some_iff.1 hg).1⟩
  subst hv
  have hcell : ∀ j, j < 6 → w.cell? ⟨g, i * 6 + j, none⟩ = (thC LL[i])[j]? := fun j hj => by
    have e := flat_at3 thC 6 thC_len LL i j hi' hj
    have hs := flat_size3 thC 6 thC_len LL
    have hc := h1.cellAt (i * 6 + j) (by omega)
    rw [hc, e]
  have hset : ∀ (j : Nat) (u : Value) (y : Thr × Option Addr × Nat), j < 6 → thC y = (thC LL[i]).set j u → EnIn w (Sx w B (.slice (some ⟨g, 0, none⟩) LL.length cap)) y.2.1 y.1.buf.length y.2.2 y.1.buf →
      ThO (w.setCell ⟨g, i * 6 + j, none⟩ u) B (.slice (some ⟨g, 0, none⟩) LL.length cap) ((LL.map (·.1)).set i y.1) ∧ w.grownBy (w.setCell ⟨g, i * 6 + j, none⟩ u) (some g) := fun j u y hj hy hen => by
    have hst := h1.stored (i * 6 + j) u
    have key : ∀ {a : Option Addr} {n c : Nat} {l : List (Int × Int)}, EnIn w (Sx w B (.slice (some ⟨g, 0, none⟩) LL.length cap)) a n c l → EnIn (w.setCell ⟨g, i * 6 + j, none⟩ u) (Sx (w.setCell ⟨g, i * 6 + j, none⟩ u) B (.slice (some ⟨g, 0, none⟩) LL.length cap)) a n c l := fun he => by
      refine (he.keep fun b o hb => ?_).widen fun b hb => ⟨hb.1, by simpa using hb.2.1, hb.2.2⟩
      exact World.cell?_setCell_other _ _ _ _ (by intro e; injection e with e1; have := hb.2.2; simp [Value.ownBlock] at this; omega)
    refine ⟨⟨LL.set i y, by rw [List.map_set], ?_, fun z hz => ?_⟩, hst.2⟩
    · rw [List.length_set, ← flat_set thC 6 thC_len LL i j hi' y u hj hy]
      exact hst.1
    · rcases List.mem_or_eq_of_mem_set hz with hz | rfl
      · exact key (h2 z hz)
      · exact key hen
  have hxi : ((LL.map (·.1))[i]'hi) = LL[i].1 := by simp
  rw [hxi]
  refine ⟨g, cap, LL[i].2.1, LL[i].2.2, by simp, ⟨by simpa using hle, hcm⟩, ⟨hb, hg⟩, ⟨hcell 0 (by omega), hcell 1 (by omega), hcell 2 (by omega)⟩, ⟨hcell 3 (by omega), hcell 4 (by omega), hcell 5 (by omega)⟩, fun j => h1.frozenAt j, h2 _ (List.getElem_mem hi'), fun j u x hj hx hc => ?_, fun a' k' l hl => ?_⟩
  · exact hset j u (x, LL[i].2.1, LL[i].2.2) (by omega) hc (by show EnIn _ _ _ x.buf.length _ x.buf; rw [hx]; exact h2 _ (List.getElem_mem hi'))
  · exact hset 5 _ ({ LL[i].1 with buf := l }, a', k') (by omega) rfl hl
/-- Numbers of the call's own: one is written. -/
theorem NumIs.at_ {w : World} {B : Nat} {v : Value} {L : List Int} (h : NumIs w B v L) (i : Nat) (hi : i < L.length) :
    ∃ g cap, v = .slice (some ⟨g, 0, none⟩) L.length cap ∧ (L.length ≤ cap ∧ cap ≤ maxLen) ∧ (B ≤ g ∧ g < w.heap.size) ∧ w.cell? ⟨g, i, none⟩ = some (.int .i64 L[i]) ∧ (∀ j, w.frozen? ⟨g, j, none⟩ = false) ∧
      ∀ n : Int, NumIs (w.setCell ⟨g, i, none⟩ (.int .i64 n)) B v (L.set i n) ∧ w.grownBy (w.setCell ⟨g, i, none⟩ (.int .i64 n)) (some g) := by
  obtain ⟨hs, h1⟩ := h
  obtain ⟨g, cap, hv, hle, hcm, hb, hg⟩ : ∃ g cap, v = .slice (some ⟨g, 0, none⟩) L.length cap ∧ L.length ≤ cap ∧ cap ≤ maxLen ∧ B ≤ g ∧ g < w.heap.size := by
    have h' := h1
    obtain ⟨_, h⟩ := h'
    rcases h with ⟨e, h0⟩ | ⟨g, cap, cur, e, hb, hg, hle, hcm, -⟩
    · omega
    · exact ⟨g, cap, e, hle, hcm, hb, (Array.getElem?_eq_some_iff.1 hg).1⟩
  subst hv
  refine ⟨g, cap, rfl, ⟨hle, hcm⟩, ⟨hb, hg⟩, ?_, fun j => h1.frozenAt j, fun n => ?_⟩
  · have hc := h1.cellAt i (by simpa using hi)
    rw [hc]
    simp [hi]
  · have hst := h1.stored i (.int .i64 n)
    refine ⟨⟨hs, ?_⟩, hst.2⟩
    rw [List.length_set, List.map_set]
    exact hst.1
theorem NumIs.grown {w w' : World} {B : Nat} {v : Value} {L : List Int} {r : Option Nat} (h : NumIs w B v L) (hg : w.grownBy w' r) (hr : v.ownBlock = none ∨ v.ownBlock ≠ r) : NumIs w' B v L := ⟨h.1, h.2.kept hg hr⟩

/-- A state of a call's own: the numbers' row below block B, the threads from there on. -/
structure StW (w : World) (n0 B : Nat) (va vm : Value) (th : List Thr) (mem : List Int) : Prop where
  le : n0 ≤ B
  lt : B ≤ w.heap.size
  hm : NumIs w n0 vm mem
  ml : ∀ k, vm.ownBlock = some k → k < B
  ht : ThO w B va th
/-- Other blocks are written, or there are more. -/
theorem StW.other {w w' : World} {n0 B : Nat} {va vm : Value} {th : List Thr} {mem : List Int} (h : StW w n0 B va vm th mem) (hb : Below w.heap.size w w') : StW w' n0 B va vm th mem :=
  ⟨h.le, Nat.le_trans h.lt hb.size, h.hm.grown (below_grown hb none) (by cases vm.ownBlock <;> simp), h.ml, h.ht.later hb (Nat.le_refl _)⟩
theorem StW.in_ {w : World} {n0 B : Nat} {va vm : Value} {th : List Thr} {mem : List Int} (h : StW w n0 B va vm th mem) :
    ∃ a ca b cb, va = .slice a th.length ca ∧ vm = .slice b mem.length cb ∧ ThrIn w (In_ w) a th.length ca th ∧ IntIn w (In_ w) b mem.length cb mem := by
  obtain ⟨a, ca, e1, h1⟩ := h.ht.in_
  obtain ⟨b, cb, e2, h2⟩ := IntIn.of_own h.hm.2
  exact ⟨a, ca, b, cb, e1, e2, h1.widen fun k hk => hk.2, h2.widen fun k hk => hk.2⟩
end Go.Proofs.YtekmcoflagajkaaGreatDoor
