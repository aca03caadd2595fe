/- The tokens of a text, as lists: the document's words in plain Lean (of no program). -/
import Derived.Test.YtogopcejapklgaaGreatDoorBunM
import Derived.Lib.AtoiAll
import Derived.Lib.ItoaNum
namespace Go.Proofs.YtogopcejapklgaaGreatDoor
structure Tok where
  kind : Int
  text : List UInt8
  n : Int
  place : Nat

def blankB (c : UInt8) : Bool := c == 32 || c == 10
def letterB (c : UInt8) : Bool := decide (97 ≤ c.toNat) && decide (c.toNat ≤ 122)
def digitB (c : UInt8) : Bool := decide (48 ≤ c.toNat) && decide (c.toNat ≤ 57)
def partB (c : UInt8) : Bool := letterB c || digitB c
def signB (c : UInt8) : Bool := [43, 45, 42, 60, 38, 124, 61, 40, 41, 123, 125, 59, 44].contains c

def runP (p : UInt8 → Bool) (l : List UInt8) : Nat := (l.takeWhile p).length
def numLx (l : List UInt8) : Int := l.foldl (fun a c => 10 * a + ((c.toNat : Int) - 48)) 0

/-- Two bytes that are one sign. -/
def two : List UInt8 → Bool
  | 61 :: 61 :: _ => true
  | 33 :: 61 :: _ => true
  | _ => false

/-- The token ahead: its kind, its length, its value. -/
def headT : List UInt8 → Option (Int × Nat × Int)
  | [] => none
  | c :: l =>
    if letterB c = true then some (1, runP partB (c :: l), 0)
    else if digitB c = true then
      if 6 < runP digitB (c :: l) ∨ 1 < runP digitB (c :: l) ∧ c = 48 then none else some (2, runP digitB (c :: l), numLx ((c :: l).take (runP digitB (c :: l))))
    else if two (c :: l) = true then some (3, 2, 0)
    else if signB c = true then some (3, 1, 0) else none

def lexF : Nat → List UInt8 → Nat → List Tok × Option Nat
  | 0, _, _ => ([], none)
  | f + 1, l, i =>
    match l.drop (runP blankB l) with
    | [] => ([⟨0, [], 0, i + runP blankB l⟩], none)
    | c :: m =>
      match headT (c :: m) with
      | none => ([], some (i + runP blankB l))
      | some (k, n, v) => (⟨k, (c :: m).take n, v, i + runP blankB l⟩ :: (lexF f ((c :: m).drop n) (i + runP blankB l + n)).1, (lexF f ((c :: m).drop n) (i + runP blankB l + n)).2)

theorem runP_cons_pos {p : UInt8 → Bool} {c : UInt8} {l : List UInt8} (h : p c = true) : runP p (c :: l) = runP p l + 1 := by simp [runP, h]
theorem runP_cons_neg {p : UInt8 → Bool} {c : UInt8} {l : List UInt8} (h : p c = false) : runP p (c :: l) = 0 := by simp [runP, h]
theorem runP_nil {p : UInt8 → Bool} : runP p [] = 0 := rfl
theorem runP_le (p : UInt8 → Bool) : ∀ l : List UInt8, runP p l ≤ l.length
  | [] => by simp [runP]
  | c :: l => by
    have := runP_le p l
    by_cases h : p c = true
    · rw [runP_cons_pos h]; simp; omega
    · rw [runP_cons_neg (by simpa using h)]; simp

theorem part_of_letter {c : UInt8} (h : letterB c = true) : partB c = true := by simp [partB, h]

theorem two_len {l : List UInt8} (h : two l = true) : 2 ≤ l.length := by
  unfold two at h; split at h <;> simp at h ⊢

/-- A token has one byte at least, and no more than there are. -/
theorem headT_len {l : List UInt8} {k : Int} {n : Nat} {v : Int} (h : headT l = some (k, n, v)) : 1 ≤ n ∧ n ≤ l.length := by
  cases l with
  | nil => simp [headT] at h
  | cons c l =>
    simp only [headT] at h
    split at h
    · rename_i hc
      cases h
      exact ⟨by rw [runP_cons_pos (part_of_letter hc)]; omega, runP_le _ _⟩
    · split at h
      · rename_i hc
        split at h
        · cases h
        · cases h
          exact ⟨by rw [runP_cons_pos hc]; omega, runP_le _ _⟩
      · split at h
        · rename_i h2
          cases h
          exact ⟨by omega, two_len h2⟩
        · split at h
          · cases h
            simp
          · cases h

theorem lexF_fuel : ∀ (f g : Nat) (l : List UInt8) (i : Nat), l.length < f → l.length < g → lexF f l i = lexF g l i
  | 0, _, _, _, h, _ => by omega
  | _ + 1, 0, _, _, _, h => by omega
  | f + 1, g + 1, l, i, hf, hg => by
    simp only [lexF]
    split
    · rfl
    · rename_i c m hm
      split
      · rfl
      · rename_i k n v hk
        have h1 := headT_len hk
        have h2 : (c :: m).length ≤ l.length := by rw [← hm]; simp
        have := lexF_fuel f g ((c :: m).drop n) (i + runP blankB l + n) (by simp at h2 ⊢; omega) (by simp at h2 ⊢; omega)
        rw [this]

/-- The tokens from place i on, or those ahead of the error and its place. -/
def lexA (s : List UInt8) (i : Nat) : List Tok × Option Nat := lexF (s.length + 1) (s.drop i) i

theorem lexA_end (s : List UInt8) (i : Nat) (h : s.length ≤ i) : lexA s i = ([⟨0, [], 0, i⟩], none) := by
  simp [lexA, lexF, List.drop_eq_nil_of_le h, runP]

theorem lexA_blank (s : List UInt8) (i : Nat) (h : i < s.length) (hb : blankB s[i] = true) : lexA s i = lexA s (i + 1) := by
  unfold lexA
  rw [List.drop_eq_getElem_cons h]
  simp only [lexF, runP_cons_pos hb, List.drop_succ_cons]
  rw [show i + (runP blankB (List.drop (i + 1) s) + 1) = i + 1 + runP blankB (List.drop (i + 1) s) from by omega]

theorem headT_drop (s : List UInt8) (i : Nat) (h : i < s.length) (hb : blankB s[i] = false) : (s.drop i).drop (runP blankB (s.drop i)) = s.drop i ∧ runP blankB (s.drop i) = 0 := by
  rw [List.drop_eq_getElem_cons h, runP_cons_neg hb]
  simp

theorem lexA_none (s : List UInt8) (i : Nat) (h : i < s.length) (hb : blankB s[i] = false) (hk : headT (s.drop i) = none) : lexA s i = ([], some i) := by
  unfold lexA
  simp only [lexF]
  rw [(headT_drop s i h hb).1, (headT_drop s i h hb).2]
  rw [List.drop_eq_getElem_cons h] at hk ⊢
  simp only [hk]
  rfl

theorem lexA_some (s : List UInt8) (i : Nat) (h : i < s.length) (hb : blankB s[i] = false) {k : Int} {n : Nat} {v : Int} (hk : headT (s.drop i) = some (k, n, v)) :
    lexA s i = (⟨k, (s.drop i).take n, v, i⟩ :: (lexA s (i + n)).1, (lexA s (i + n)).2) := by
  have h1 := headT_len hk
  have e : lexA s (i + n) = lexF s.length ((s.drop i).drop n) (i + n) := by
    unfold lexA
    rw [List.drop_drop]
    exact lexF_fuel _ _ _ _ (by simp; omega) (by simp at h1 ⊢; omega)
  rw [e]
  unfold lexA
  simp only [lexF]
  rw [(headT_drop s i h hb).1, (headT_drop s i h hb).2]
  rw [List.drop_eq_getElem_cons h] at hk ⊢
  simp only [hk]
  rfl
end Go.Proofs.YtogopcejapklgaaGreatDoor
namespace Go.Proofs.YtogopcejapklgaaGreatDoor
theorem runP_append_stop (p : UInt8 → Bool) (c : UInt8) (t : List UInt8) (hc : p c = false) : ∀ l : List UInt8, runP p (l ++ c :: t) = runP p l
  | [] => by rw [List.nil_append, runP_cons_neg hc, runP_nil]
  | d :: l => by
    have ih := runP_append_stop p c t hc l
    rw [List.cons_append]
    by_cases h : p d = true
    · rw [runP_cons_pos h, runP_cons_pos h, ih]
    · rw [runP_cons_neg (by simpa using h), runP_cons_neg (by simpa using h)]

theorem part_blank : partB 32 = false := by decide
theorem digit_blank : digitB 32 = false := by decide

theorem two_append (t : List UInt8) : ∀ l : List UInt8, l ≠ [] → two (l ++ 32 :: t) = two l
  | [], h => absurd rfl h
  | [c], _ => by
    simp only [List.cons_append, List.nil_append]
    unfold two
    split
    · rename_i h; simp at h
    · rename_i h; simp at h
    · split <;> simp_all
  | c :: d :: l, _ => by
    simp only [List.cons_append]
    unfold two
    split <;> split <;> simp_all

/-- A blank behind a text leaves its first token. -/
theorem headT_append (t : List UInt8) (l : List UInt8) (hl : l ≠ []) : headT (l ++ 32 :: t) = headT l := by
  cases l with
  | nil => exact absurd rfl hl
  | cons c l =>
    have e1 := runP_append_stop partB 32 t part_blank (c :: l)
    have e2 := runP_append_stop digitB 32 t digit_blank (c :: l)
    have e3 := two_append t (c :: l) (by simp)
    have e4 : ((c :: l) ++ 32 :: t).take (runP digitB (c :: l)) = (c :: l).take (runP digitB (c :: l)) := by
      rw [List.take_append_of_le_length (runP_le _ _)]
    rw [List.cons_append] at e1 e2 e3 e4 ⊢
    simp only [headT, e1, e2, e3, e4]

theorem runP_take (p : UInt8 → Bool) : ∀ l : List UInt8, runP p (l.take (runP p l)) = runP p l
  | [] => by simp [runP]
  | c :: l => by
    by_cases h : p c = true
    · rw [runP_cons_pos h, List.take_succ_cons, runP_cons_pos h, runP_take p l]
    · rw [runP_cons_neg (by simpa using h)]; simp [runP]

/-- A token's own text is that token again. -/
theorem headT_take {l : List UInt8} {k : Int} {n : Nat} {v : Int} (h : headT l = some (k, n, v)) : headT (l.take n) = some (k, n, v) := by
  have hn := headT_len h
  cases l with
  | nil => simp [headT] at h
  | cons c l =>
    have e : (c :: l).take n = c :: l.take (n - 1) := by
      cases n with
      | zero => omega
      | succ n => simp
    rw [e]
    simp only [headT] at h ⊢
    rw [← e]
    by_cases hc : letterB c = true
    · rw [if_pos hc] at h ⊢
      obtain ⟨rfl, hn', rfl⟩ : 1 = k ∧ runP partB (c :: l) = n ∧ 0 = v := by simpa using h
      rw [← hn', runP_take]
    · rw [if_neg hc] at h ⊢
      by_cases hd : digitB c = true
      · rw [if_pos hd] at h ⊢
        by_cases hx : 6 < runP digitB (c :: l) ∨ 1 < runP digitB (c :: l) ∧ c = 48
        · rw [if_pos hx] at h; cases h
        · rw [if_neg hx] at h
          obtain ⟨rfl, hn', hv⟩ : 2 = k ∧ runP digitB (c :: l) = n ∧ numLx ((c :: l).take (runP digitB (c :: l))) = v := by simpa using h
          rw [← hn', runP_take, if_neg hx, List.take_take, Nat.min_self, hn', ← hv, hn']
      · rw [if_neg hd] at h ⊢
        by_cases h2 : two (c :: l) = true
        · rw [if_pos h2] at h
          obtain ⟨rfl, rfl, rfl⟩ : 3 = k ∧ 2 = n ∧ 0 = v := by simpa using h
          have : two ((c :: l).take 2) = true := by
            unfold two at h2
            split at h2
            · rename_i h; rw [h]; rfl
            · rename_i h; rw [h]; rfl
            · cases h2
          rw [if_pos this]
        · rw [if_neg h2] at h
          by_cases h3 : signB c = true
          · rw [if_pos h3] at h ⊢
            obtain ⟨rfl, rfl, rfl⟩ : 3 = k ∧ 1 = n ∧ 0 = v := by simpa using h
            have : two ((c :: l).take 1) = false := by
              simp only [List.take_succ_cons, List.take_zero]
              unfold two
              split <;> simp_all
            rw [this]
            simp
          · rw [if_neg h3] at h; cases h

/-- The first byte of a token is no blank. -/
theorem headT_blank {c : UInt8} {l : List UInt8} {x : Int × Nat × Int} (h : headT (c :: l) = some x) : blankB c = false := by
  have hc : blankB c = true → headT (c :: l) = none := by
    intro hb
    have : c = 32 ∨ c = 10 := by simpa [blankB] using hb
    rcases this with rfl | rfl
    · simp only [headT]
      rw [if_neg (by decide), if_neg (by decide), if_neg (by unfold two; split <;> simp_all), if_neg (by decide)]
    · simp only [headT]
      rw [if_neg (by decide), if_neg (by decide), if_neg (by unfold two; split <;> simp_all), if_neg (by decide)]
  cases hb : blankB c with
  | false => rfl
  | true => rw [hc hb] at h; cases h

/-- Two lists of tokens, but for their places. -/
def alike (a b : Tok) : Prop := a.kind = b.kind ∧ a.text = b.text ∧ a.n = b.n

/-- A token that stands by itself. -/
def Good (t : Tok) : Prop := headT t.text = some (t.kind, t.text.length, t.n)

theorem lexF_good : ∀ (f : Nat) (l : List UInt8) (i : Nat), (lexF f l i).2 = none → l.length < f → ∃ ts : List Tok, ∃ e : Tok, (lexF f l i).1 = ts ++ [e] ∧ (∀ t ∈ ts, Good t) ∧ e.kind = 0 ∧ e.text = [] ∧ e.n = 0 ∧ e.place = i + l.length
  | 0, _, _, _, h => by omega
  | f + 1, l, i, hn, hf => by
    simp only [lexF] at hn ⊢
    have hb := runP_le blankB l
    split at hn
    · rename_i hd
      have hlen : l.length ≤ runP blankB l := by simpa using hd
      exact ⟨[], _, by simp; exact rfl, by simp, rfl, rfl, rfl, by simp; omega⟩
    · rename_i c m hm
      have hlen := congrArg List.length hm
      simp at hlen
      split at hn
      · cases hn
      · rename_i k n v hk
        have h1 := headT_len hk
        simp only [List.length_cons] at h1
        simp only at hn
        obtain ⟨ts, e, h2, h3, h4, h5, h6, h7⟩ := lexF_good f _ _ hn (by simp; omega)
        simp only []
        refine ⟨⟨k, (c :: m).take n, v, _⟩ :: ts, e, by rw [h2]; rfl, ?_, h4, h5, h6, ?_⟩
        · intro t ht
          rcases List.mem_cons.1 ht with rfl | ht
          · unfold Good
            rw [headT_take hk, List.length_take, Nat.min_eq_left (by simp; omega)]
          · exact h3 t ht
        · rw [h7]; simp; omega

/-- The texts, a blank ahead of each. -/
def joinB (ts : List Tok) : List UInt8 := ts.flatMap fun t => 32 :: t.text

theorem joinB_cons (t : Tok) (ts : List Tok) : joinB (t :: ts) = 32 :: (t.text ++ joinB ts) := by simp [joinB]
theorem joinB_last (ts : List Tok) (e : Tok) : ∃ r, joinB (ts ++ [e]) = 32 :: r := by
  cases ts with
  | nil => exact ⟨_, by rw [List.nil_append, joinB_cons]⟩
  | cons t ts => exact ⟨_, by rw [List.cons_append, joinB_cons]⟩

theorem lexF_join (e : Tok) (he : e.kind = 0 ∧ e.text = [] ∧ e.n = 0) : ∀ (ts : List Tok) (f i : Nat), (∀ t ∈ ts, Good t) → (joinB (ts ++ [e])).length < f →
    ∃ us, lexF f (joinB (ts ++ [e])) i = (us, none) ∧ us.length = (ts ++ [e]).length ∧ ∀ k (h : k < us.length) (h' : k < (ts ++ [e]).length), alike us[k] (ts ++ [e])[k]
  | _, 0, _, _, h => by omega
  | [], f + 1, i, _, _ => by
    have hj : joinB ([] ++ [e]) = [32] := by simp [joinB, he.2.1]
    rw [hj]
    refine ⟨_, rfl, rfl, ?_⟩
    intro k h h'
    simp at h'
    subst h'
    exact ⟨he.1.symm, he.2.1.symm, he.2.2.symm⟩
  | t :: ts, f + 1, i, hg, hf => by
    have hgt : Good t := hg t (by simp)
    unfold Good at hgt
    obtain ⟨r, hr⟩ := joinB_last ts e
    have ht0 := headT_len hgt
    obtain ⟨c, m, hcm⟩ : ∃ c m, t.text = c :: m := by
      cases h : t.text with
      | nil => rw [h] at ht0; simp at ht0
      | cons c m => exact ⟨c, m, rfl⟩
    have hj : joinB (t :: ts ++ [e]) = 32 :: (t.text ++ 32 :: r) := by rw [List.cons_append, joinB_cons, hr]
    have hb : runP blankB (32 :: (t.text ++ 32 :: r)) = 1 := by
      rw [runP_cons_pos (by decide), hcm, List.cons_append, runP_cons_neg (headT_blank (by rw [hcm] at hgt; exact hgt))]
    have hh : headT (t.text ++ 32 :: r) = some (t.kind, t.text.length, t.n) := by rw [headT_append _ _ (by rw [hcm]; simp)]; exact hgt
    have hf' : (joinB (ts ++ [e])).length < f := by
      rw [hj] at hf; rw [hr]; simp at hf ⊢; omega
    obtain ⟨us, h1, h2, h3⟩ := lexF_join e he ts f (i + 1 + t.text.length) (fun u hu => hg u (by simp [hu])) hf'
    have hd : (t.text ++ 32 :: r).drop t.text.length = joinB (ts ++ [e]) := by rw [List.drop_left, hr]
    have htk : (t.text ++ 32 :: r).take t.text.length = t.text := by rw [List.take_left]
    have hstep : lexF (f + 1) (joinB (t :: ts ++ [e])) i = (⟨t.kind, t.text, t.n, i + 1⟩ :: us, none) := by
      rw [hj]
      simp only [lexF, hb, List.drop_succ_cons, List.drop_zero]
      rw [hcm] at hh hd htk ⊢
      simp only [List.cons_append] at hh hd htk ⊢
      simp only [hh, hd, htk]
      rw [← hcm, h1]
    refine ⟨_, hstep, by simp [h2], ?_⟩
    intro k h h'
    cases k with
    | zero => exact ⟨rfl, rfl, rfl⟩
    | succ k =>
      simp only [List.cons_append, List.getElem_cons_succ]
      exact h3 k (by simpa using h) (by simpa using h')

def key (t : Tok) : Int × List UInt8 × Int := (t.kind, t.text, t.n)

/-- Places alone turn where a text lies further on. -/
theorem lexF_shift : ∀ (f : Nat) (l : List UInt8) (i j : Nat), (lexF f l i).1.map key = (lexF f l j).1.map key ∧ (lexF f l i).2.isSome = (lexF f l j).2.isSome
  | 0, _, _, _ => ⟨rfl, rfl⟩
  | f + 1, l, i, j => by
    simp only [lexF]
    split
    · exact ⟨rfl, rfl⟩
    · split
      · exact ⟨rfl, rfl⟩
      · rename_i _ c m _ _ k n v _
        have := lexF_shift f ((c :: m).drop n) (i + runP blankB l + n) (j + runP blankB l + n)
        exact ⟨by simp only [List.map_cons]; rw [this.1]; rfl, this.2⟩

theorem runP_all (p : UInt8 → Bool) (t : List UInt8) : ∀ l : List UInt8, l.drop (runP p l) = [] → runP p (l ++ t) = l.length + runP p t
  | [], _ => by simp
  | c :: l, h => by
    by_cases hc : p c = true
    · rw [runP_cons_pos hc] at h
      rw [List.cons_append, runP_cons_pos hc, runP_all p t l (by simpa using h)]
      simp; omega
    · rw [runP_cons_neg (by simpa using hc)] at h
      simp at h

theorem runP_some (p : UInt8 → Bool) (t : List UInt8) : ∀ l : List UInt8, l.drop (runP p l) ≠ [] → runP p (l ++ t) = runP p l
  | [], h => absurd rfl h
  | c :: l, h => by
    by_cases hc : p c = true
    · rw [runP_cons_pos hc] at h
      rw [List.cons_append, runP_cons_pos hc, runP_cons_pos hc, runP_some p t l (by simpa using h)]
    · rw [List.cons_append, runP_cons_neg (by simpa using hc), runP_cons_neg (by simpa using hc)]

theorem lexF_parts (t : List UInt8) : ∀ (f : Nat) (l : List UInt8) (i F : Nat), l.length < f → (l ++ 32 :: t).length < F →
    (∀ j, (lexF f l i).2 = some j → (lexF F (l ++ 32 :: t) i).2 = some j) ∧
    ((lexF f l i).2 = none → lexF F (l ++ 32 :: t) i = ((lexF f l i).1.dropLast ++ (lexF F t (i + l.length + 1)).1, (lexF F t (i + l.length + 1)).2))
  | 0, _, _, _, h, _ => by omega
  | _ + 1, _, _, 0, _, h => by omega
  | f + 1, l, i, F + 1, hf, hF => by
    have hbl := runP_le blankB l
    have hm : ∀ m, l.drop (runP blankB l) = m → (m = [] ∨ ∃ c r, m = c :: r) := fun m _ => by cases m <;> simp
    rcases hm _ rfl with hm | ⟨c, m, hm⟩
    · have e : lexF (F + 1) (l ++ 32 :: t) i = lexF (F + 1) t (i + l.length + 1) := by
        simp only [lexF]
        rw [runP_all blankB (32 :: t) l hm, runP_cons_pos (by decide)]
        have : (l ++ 32 :: t).drop (l.length + (runP blankB t + 1)) = t.drop (runP blankB t) := by
          rw [← List.drop_drop, List.drop_left, List.drop_succ_cons]
        rw [this, show i + (l.length + (runP blankB t + 1)) = i + l.length + 1 + runP blankB t from by omega]
      have e2 : lexF (f + 1) l i = ([⟨0, [], 0, i + runP blankB l⟩], none) := by simp only [lexF, hm]
      rw [e, e2]
      exact ⟨fun j h => by simp at h, fun _ => by simp⟩
    · have hne : l.drop (runP blankB l) ≠ [] := by rw [hm]; simp
      have hr := runP_some blankB (32 :: t) l hne
      have hd : (l ++ 32 :: t).drop (runP blankB l) = c :: (m ++ 32 :: t) := by
        rw [List.drop_append_of_le_length hbl, hm, List.cons_append]
      have hh : headT (c :: (m ++ 32 :: t)) = headT (c :: m) := by
        have := headT_append t (c :: m) (by simp)
        rwa [List.cons_append] at this
      simp only [lexF, hr, hd, hh, hm]
      cases hk : headT (c :: m) with
      | none => exact ⟨fun j h => h, fun h => by simp at h⟩
      | some x =>
        obtain ⟨k, n, v⟩ := x
        have h1 := headT_len hk
        have hlen := congrArg List.length hm
        simp at hlen
        simp only
        have h2 : (c :: (m ++ 32 :: t)).drop n = (c :: m).drop n ++ 32 :: t := by
          rw [← List.cons_append, List.drop_append_of_le_length h1.2]
        have h3 : (c :: (m ++ 32 :: t)).take n = (c :: m).take n := by
          rw [← List.cons_append, List.take_append_of_le_length h1.2]
        rw [h2, h3]
        simp only [List.length_append, List.length_cons] at hF h1
        obtain ⟨p1, p2⟩ := lexF_parts t f ((c :: m).drop n) (i + runP blankB l + n) F (by simp; omega) (by simp; omega)
        refine ⟨p1, fun hn => ?_⟩
        rw [p2 hn]
        have hplace : i + runP blankB l + n + ((c :: m).drop n).length + 1 = i + l.length + 1 := by simp; omega
        rw [hplace]
        have hq : lexF F t (i + l.length + 1) = lexF (F + 1) t (i + l.length + 1) := lexF_fuel _ _ _ _ (by omega) (by omega)
        rw [hq]
        obtain ⟨ts, e, h4, _⟩ := lexF_good f _ _ hn (by simp; omega)
        rw [h4]
        simp only [lexF]
        have hdl : ∀ x : Tok, (x :: (ts ++ [e])).dropLast = x :: ts := fun x => by rw [← List.cons_append, List.dropLast_concat]
        rw [hdl, List.dropLast_concat, List.cons_append]
end Go.Proofs.YtogopcejapklgaaGreatDoor
namespace Go.Proofs.YtogopcejapklgaaGreatDoor

@[elab_as_elim]
theorem snoc_ind {P : List UInt8 → Prop} (nil : P []) (snoc : ∀ l c, P l → P (l ++ [c])) (l : List UInt8) : P l := by
  have key : ∀ l : List UInt8, P l.reverse := by
    intro l
    induction l with
    | nil => exact nil
    | cons c l ih => rw [List.reverse_cons]; exact snoc _ _ ih
  have := key l.reverse
  rwa [List.reverse_reverse] at this

def numN (l : List UInt8) : Nat := l.foldl (fun a c => 10 * a + (c.toNat - 48)) 0

theorem numN_snoc (l : List UInt8) (c : UInt8) : numN (l ++ [c]) = 10 * numN l + (c.toNat - 48) := by simp [numN]
theorem numL_snoc (l : List UInt8) (c : UInt8) : numLx (l ++ [c]) = 10 * numLx l + ((c.toNat : Int) - 48) := by simp [numLx]

theorem digit_bounds {c : UInt8} (h : digitB c = true) : 48 ≤ c.toNat ∧ c.toNat ≤ 57 := by simpa [digitB] using h

theorem numL_numN (l : List UInt8) (h : ∀ c ∈ l, digitB c = true) : numLx l = (numN l : Int) := by
  have key : ∀ (l : List UInt8) (a : Nat), (∀ c ∈ l, digitB c = true) → l.foldl (fun (a : Int) (c : UInt8) => 10 * a + ((c.toNat : Int) - 48)) (a : Int) = ((l.foldl (fun (a : Nat) (c : UInt8) => 10 * a + (c.toNat - 48)) a : Nat) : Int) := by
    intro l
    induction l with
    | nil => intro a _; rfl
    | cons c l ih =>
      intro a h
      simp only [List.foldl_cons]
      have hc := digit_bounds (h c (by simp))
      have := ih (10 * a + (c.toNat - 48)) (fun d hd => h d (by simp [hd]))
      rw [← this]
      congr 1
      omega
  exact key l 0 h

theorem numN_lt : ∀ (l : List UInt8), (∀ c ∈ l, digitB c = true) → numN l < 10 ^ l.length := by
  intro l
  induction l using snoc_ind with
  | nil => intro _; simp [numN]
  | snoc l c ih =>
    intro h
    have := ih (fun d hd => h d (by simp [hd]))
    have hc := digit_bounds (h c (by simp))
    rw [numN_snoc, List.length_append, List.length_singleton, Nat.pow_succ]
    omega

theorem numN_pos : ∀ (l : List UInt8), (∀ c ∈ l, digitB c = true) → ∀ c, l.head? = some c → c ≠ 48 → 1 ≤ numN l := by
  intro l
  induction l using snoc_ind with
  | nil => intro _ c hc; simp at hc
  | snoc l d ih =>
    intro h c hc h48
    have hd := digit_bounds (h d (by simp))
    rw [numN_snoc]
    cases l with
    | nil =>
      have : c = d := by simpa using hc.symm
      subst this
      have : c.toNat ≠ 48 := fun e => h48 (UInt8.toNat_inj.1 e)
      omega
    | cons e l =>
      have := ih (fun d hd => h d (by rw [List.mem_append]; exact .inl hd)) c (by simpa using hc) h48
      omega

theorem ofNat_digit {c : UInt8} (h : digitB c = true) : UInt8.ofNat (48 + (c.toNat - 48)) = c := by
  have := digit_bounds h
  rw [show 48 + (c.toNat - 48) = c.toNat from by omega]
  exact UInt8.ofNat_toNat

/-- A numeral without noughts ahead is what its value is written as. -/
theorem dec_back : ∀ (l : List UInt8), (∀ c ∈ l, digitB c = true) → l ≠ [] → (l.length = 1 ∨ ∀ c, l.head? = some c → c ≠ 48) → Lib.decDigits (numN l) = l := by
  intro l
  induction l using snoc_ind with
  | nil => intro _ h; exact absurd rfl h
  | snoc l c ih =>
    intro h _ hh
    have hc := h c (by simp)
    have hb := digit_bounds hc
    rw [numN_snoc]
    cases l with
    | nil =>
      rw [show 10 * numN [] + (c.toNat - 48) = c.toNat - 48 from by simp [numN]]
      rw [Lib.decDigits_one (by omega), ofNat_digit hc]
      rfl
    | cons d l =>
      have hh' : ∀ c, (d :: l).head? = some c → c ≠ 48 := by
        rcases hh with h1 | h1
        · simp at h1
        · intro e he; exact h1 e (by simpa using he)
      have hp := numN_pos (d :: l) (fun e he => h e (by rw [List.mem_append]; exact .inl he)) d rfl (hh' d rfl)
      have ihl := ih (fun e he => h e (by rw [List.mem_append]; exact .inl he)) (by simp) (.inr hh')
      rw [Lib.decDigits, dif_neg (by omega)]
      have e1 : (10 * numN (d :: l) + (c.toNat - 48)) / 10 = numN (d :: l) := by omega
      have e2 : (10 * numN (d :: l) + (c.toNat - 48)) % 10 = c.toNat - 48 := by omega
      rw [e1, e2, ihl, ofNat_digit hc]

theorem dec_head : ∀ (u : Nat), 1 ≤ u → ∀ c, (Lib.decDigits u).head? = some c → c ≠ 48 := by
  intro u
  induction u using Nat.strongRecOn with
  | ind u ih =>
    intro hu c hc
    rw [Lib.decDigits] at hc
    by_cases h : u < 10
    · rw [dif_pos h] at hc
      have hc' : UInt8.ofNat (48 + u) = c := by simpa using hc
      subst hc'
      intro e
      have := congrArg UInt8.toNat e
      simp at this
      omega
    · rw [dif_neg h] at hc
      have hne : Lib.decDigits (u / 10) ≠ [] := by
        intro e
        have := Lib.decDigits_length (u / 10)
        rw [e] at this
        have := Lib.nDigits_pos (u / 10)
        simp at *
        omega
      obtain ⟨d, r, hdr⟩ : ∃ d r, Lib.decDigits (u / 10) = d :: r := by
        cases hx : Lib.decDigits (u / 10) with
        | nil => exact absurd hx hne
        | cons d r => exact ⟨d, r, rfl⟩
      have hi := ih (u / 10) (by omega) (by omega) c
      rw [hdr] at hi hc
      exact hi (by simpa using hc)

/-- A numeral with noughts ahead is not what its value is written as. -/
theorem dec_not (l : List UInt8) (h1 : 1 < l.length) (h0 : l.head? = some 48) : Lib.decDigits (numN l) ≠ l := by
  intro e
  by_cases hu : 1 ≤ numN l
  · exact dec_head _ hu 48 (by rw [e]; exact h0) rfl
  · have : numN l = 0 := by omega
    rw [this, Lib.decDigits_one (by omega)] at e
    rw [← e] at h1
    simp at h1

theorem parse_digits : ∀ (l : List UInt8) (acc : Nat), (∀ c ∈ l, digitB c = true) → (∃ u, Lib.parseUint10 acc l = .ok u) ∨ Lib.parseUint10 acc l = .range
  | [], acc, _ => .inl ⟨acc, by simp [Lib.parseUint10]⟩
  | c :: l, acc, h => by
    have hc := digit_bounds (h c (by simp))
    simp only [Lib.parseUint10, if_pos hc]
    split
    · exact .inr rfl
    · split
      · exact .inr rfl
      · exact parse_digits l _ (fun d hd => h d (by simp [hd]))

theorem parse_small : ∀ (l : List UInt8) (acc : Nat), (∀ c ∈ l, digitB c = true) → acc * 10 ^ l.length + 10 ^ l.length ≤ 1000000 → Lib.parseUint10 acc l = .ok (l.foldl (fun a c => 10 * a + (c.toNat - 48)) acc)
  | [], acc, _, _ => by simp [Lib.parseUint10]
  | c :: l, acc, h, hb => by
    have hc := digit_bounds (h c (by simp))
    have hp : 1 ≤ 10 ^ l.length := Nat.pos_of_ne_zero (by simp)
    simp only [List.length_cons, Nat.pow_succ] at hb
    have h10 : acc * 10 < 1000000 := by
      have : acc * 10 * 1 ≤ acc * 10 * 10 ^ l.length := Nat.mul_le_mul_left _ hp
      have e : acc * (10 ^ l.length * 10) = acc * 10 * 10 ^ l.length := by ac_rfl
      omega
    simp only [Lib.parseUint10, if_pos hc]
    rw [if_neg (by omega), if_neg (by omega)]
    rw [parse_small l _ (fun d hd => h d (by simp [hd])) ?_]
    · simp only [List.foldl_cons]
      rw [Nat.mul_comm acc 10]
    · have e : (acc * 10 + (c.toNat - 48)) * 10 ^ l.length + 10 ^ l.length = acc * (10 ^ l.length * 10) + (c.toNat - 48) * 10 ^ l.length + 10 ^ l.length := by
        rw [Nat.add_mul]; ac_rfl
      rw [e]
      have : (c.toNat - 48) * 10 ^ l.length ≤ 9 * 10 ^ l.length := Nat.mul_le_mul_right _ (by omega)
      omega

theorem digit_no_sign {c : UInt8} (h : digitB c = true) : ¬ (c.toNat = 43 ∨ c.toNat = 45) := by have := digit_bounds h; omega

theorem atoi_digits (l : List UInt8) (h : ∀ c ∈ l, digitB c = true) (hne : l ≠ []) : (∃ v, Lib.atoiAll l = .ok v) ∨ Lib.atoiAll l = .range := by
  cases l with
  | nil => exact absurd rfl hne
  | cons c r =>
    have hc := digit_no_sign (h c (by simp))
    have hp := parse_digits (c :: r) 0 h
    simp only [Lib.atoiAll, if_neg hc]
    have e : Lib.parseMag (c :: r) = Lib.parseUint10 0 (c :: r) := by simp [Lib.parseMag]
    rw [e]
    rcases hp with ⟨u, hu⟩ | hu
    · rw [hu]
      simp only
      split
      · exact .inr rfl
      · split
        · exact .inr rfl
        · exact .inl ⟨_, rfl⟩
    · rw [hu]
      exact .inr rfl

theorem atoi_small (l : List UInt8) (h : ∀ c ∈ l, digitB c = true) (hne : l ≠ []) (h6 : l.length ≤ 6) : Lib.atoiAll l = .ok (numLx l) := by
  have hpow : 10 ^ l.length ≤ 10 ^ 6 := Nat.pow_le_pow_right (by omega) h6
  have hlt := numN_lt l h
  rw [numL_numN l h]
  cases l with
  | nil => exact absurd rfl hne
  | cons c r =>
    have hc := digit_no_sign (h c (by simp))
    have hp := parse_small (c :: r) 0 h (by omega)
    simp only [Lib.atoiAll, if_neg hc]
    have e : Lib.parseMag (c :: r) = Lib.parseUint10 0 (c :: r) := by simp [Lib.parseMag]
    rw [e, hp]
    have hn : (c :: r).foldl (fun a c => 10 * a + (c.toNat - 48)) 0 = numN (c :: r) := rfl
    rw [hn]
    have hm : ¬ c.toNat = 45 := fun e => hc (.inr e)
    simp only [hm]
    simp
    omega

theorem run_digits (l : List UInt8) : ∀ c ∈ l.take (runP digitB l), digitB c = true := by
  induction l with
  | nil => intro c hc; simp [runP] at hc
  | cons d l ih =>
    intro c hc
    by_cases h : digitB d = true
    · rw [runP_cons_pos h, List.take_succ_cons] at hc
      rcases List.mem_cons.1 hc with rfl | hc
      · exact h
      · exact ih c hc
    · rw [runP_cons_neg (by simpa using h)] at hc
      simp at hc
end Go.Proofs.YtogopcejapklgaaGreatDoor
