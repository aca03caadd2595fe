/- The tokens of a text, as lists: the document's words in plain Lean (of no program). -/
import Derived.Test.YtcgpobeidlimkaaGreatDoorMem
namespace Go.Proofs.YtcgpobeidlimkaaGreatDoor
structure Tok where
  kind : Int
  text : List UInt8
  n : Int
  place : Nat

def blankB (c : UInt8) : Bool := c == 32 || c == 10
def letterB (c : UInt8) : Bool := decide (97 ≤ c.toNat) && decide (c.toNat ≤ 122)
def digitB (c : UInt8) : Bool := decide (48 ≤ c.toNat) && decide (c.toNat ≤ 57)
def partB (c : UInt8) : Bool := letterB c || digitB c
def signB (c : UInt8) : Bool := [43, 45, 42, 60, 38, 124, 61, 40, 41, 123, 125, 59, 44].contains c

def runP (p : UInt8 → Bool) (l : List UInt8) : Nat := (l.takeWhile p).length
def numLx (l : List UInt8) : Int := l.foldl (fun a c => 10 * a + ((c.toNat : Int) - 48)) 0

/-- Two bytes that are one sign. -/
def two : List UInt8 → Bool
  | 61 :: 61 :: _ => true
  | 33 :: 61 :: _ => true
  | _ => false

/-- The token ahead: its kind, its length, its value. -/
def headT : List UInt8 → Option (Int × Nat × Int)
  | [] => none
  | c :: l =>
    if letterB c = true then some (1, runP partB (c :: l), 0)
    else if digitB c = true then
      if 6 < runP digitB (c :: l) ∨ 1 < runP digitB (c :: l) ∧ c = 48 then none else some (2, runP digitB (c :: l), numLx ((c :: l).take (runP digitB (c :: l))))
    else if two (c :: l) = true then some (3, 2, 0)
    else if signB c = true then some (3, 1, 0) else none

def lexF : Nat → List UInt8 → Nat → List Tok × Option Nat
  | 0, _, _ => ([], none)
  | f + 1, l, i =>
    match l.drop (runP blankB l) with
    | [] => ([⟨0, [], 0, i + runP blankB l⟩], none)
    | c :: m =>
      match headT (c :: m) with
      | none => ([], some (i + runP blankB l))
      | some (k, n, v) => (⟨k, (c :: m).take n, v, i + runP blankB l⟩ :: (lexF f ((c :: m).drop n) (i + runP blankB l + n)).1, (lexF f ((c :: m).drop n) (i + runP blankB l + n)).2)

theorem runP_cons_pos {p : UInt8 → Bool} {c : UInt8} {l : List UInt8} (h : p c = true) : runP p (c :: l) = runP p l + 1 := by simp [runP, h]
theorem runP_cons_neg {p : UInt8 → Bool} {c : UInt8} {l : List UInt8} (h : p c = false) : runP p (c :: l) = 0 := by simp [runP, h]
theorem runP_nil {p : UInt8 → Bool} : runP p [] = 0 := rfl
theorem runP_le (p : UInt8 → Bool) : ∀ l : List UInt8, runP p l ≤ l.length
  | [] => by simp [runP]
  | c :: l => by
    have := runP_le p l
    by_cases h : p c = true
    · rw [runP_cons_pos h]; simp; omega
    · rw [runP_cons_neg (by simpa using h)]; simp

theorem part_of_letter {c : UInt8} (h : letterB c = true) : partB c = true := by simp [partB, h]

theorem two_len {l : List UInt8} (h : two l = true) : 2 ≤ l.length := by
  unfold two at h; split at h <;> simp at h ⊢

/-- A token has one byte at least, and no more than there are. -/
theorem headT_len {l : List UInt8} {k : Int} {n : Nat} {v : Int} (h : headT l = some (k, n, v)) : 1 ≤ n ∧ n ≤ l.length := by
  cases l with
  | nil => simp [headT] at h
  | cons c l =>
    simp only [headT] at h
    split at h
    · rename_i hc
      cases h
      exact ⟨by rw [runP_cons_pos (part_of_letter hc)]; omega, runP_le _ _⟩
    · split at h
      · rename_i hc
        split at h
        · cases h
        · cases h
          exact ⟨by rw [runP_cons_pos hc]; omega, runP_le _ _⟩
      · split at h
        · rename_i h2
          cases h
          exact ⟨by omega, two_len h2⟩
        · split at h
          · cases h
            simp
          · cases h

theorem lexF_fuel : ∀ (f g : Nat) (l : List UInt8) (i : Nat), l.length < f → l.length < g → lexF f l i = lexF g l i
  | 0, _, _, _, h, _ => by omega
  | _ + 1, 0, _, _, _, h => by omega
  | f + 1, g + 1, l, i, hf, hg => by
    simp only [lexF]
    split
    · rfl
    · rename_i c m hm
      split
      · rfl
      · rename_i k n v hk
        have h1 := headT_len hk
        have h2 : (c :: m).length ≤ l.length := by rw [← hm]; simp
        have := lexF_fuel f g ((c :: m).drop n) (i + runP blankB l + n) (by simp at h2 ⊢; omega) (by simp at h2 ⊢; omega)
        rw [this]

/-- The tokens from place i on, or those ahead of the error and its place. -/
def lexA (s : List UInt8) (i : Nat) : List Tok × Option Nat := lexF (s.length + 1) (s.drop i) i

theorem lexA_end (s : List UInt8) (i : Nat) (h : s.length ≤ i) : lexA s i = ([⟨0, [], 0, i⟩], none) := by
  simp [lexA, lexF, List.drop_eq_nil_of_le h, runP]

theorem lexA_blank (s : List UInt8) (i : Nat) (h : i < s.length) (hb : blankB s[i] = true) : lexA s i = lexA s (i + 1) := by
  unfold lexA
  rw [List.drop_eq_getElem_cons h]
  simp only [lexF, runP_cons_pos hb, List.drop_succ_cons]
  rw [show i + (runP blankB (List.drop (i + 1) s) + 1) = i + 1 + runP blankB (List.drop (i + 1) s) from by omega]

theorem headT_drop (s : List UInt8) (i : Nat) (h : i < s.length) (hb : blankB s[i] = false) : (s.drop i).drop (runP blankB (s.drop i)) = s.drop i ∧ runP blankB (s.drop i) = 0 := by
  rw [List.drop_eq_getElem_cons h, runP_cons_neg hb]
  simp

theorem lexA_none (s : List UInt8) (i : Nat) (h : i < s.length) (hb : blankB s[i] = false) (hk : headT (s.drop i) = none) : lexA s i = ([], some i) := by
  unfold lexA
  simp only [lexF]
  rw [(headT_drop s i h hb).1, (headT_drop s i h hb).2]
  rw [List.drop_eq_getElem_cons h] at hk ⊢
  simp only [hk]
  rfl

theorem lexA_some (s : List UInt8) (i : Nat) (h : i < s.length) (hb : blankB s[i] = false) {k : Int} {n : Nat} {v : Int} (hk : headT (s.drop i) = some (k, n, v)) :
    lexA s i = (⟨k, (s.drop i).take n, v, i⟩ :: (lexA s (i + n)).1, (lexA s (i + n)).2) := by
  have h1 := headT_len hk
  have e : lexA s (i + n) = lexF s.length ((s.drop i).drop n) (i + n) := by
    unfold lexA
    rw [List.drop_drop]
    exact lexF_fuel _ _ _ _ (by simp; omega) (by simp at h1 ⊢; omega)
  rw [e]
  unfold lexA
  simp only [lexF]
  rw [(headT_drop s i h hb).1, (headT_drop s i h hb).2]
  rw [List.drop_eq_getElem_cons h] at hk ⊢
  simp only [hk]
  rfl
end Go.Proofs.YtcgpobeidlimkaaGreatDoor
