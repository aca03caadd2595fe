/- Plain laws of numerals: the library's words for them against the document's. -/
import Derived.Test.YteomcjfnghbikaaDoorLexN
import Derived.Lib.AtoiAll
import Derived.Lib.ItoaNum
namespace Go.Proofs.YteomcjfnghbikaaDoor

@[elab_as_elim]
theorem snoc_ind {P : List UInt8 → Prop} (nil : P []) (snoc : ∀ l c, P l → P (l ++ [c])) (l : List UInt8) : P l := by
  have key : ∀ l : List UInt8, P l.reverse := by
    intro l
    induction l with
    | nil => exact nil
    | cons c l ih => rw [List.reverse_cons]; exact snoc _ _ ih
  have := key l.reverse
  rwa [List.reverse_reverse] at this

def numN (l : List UInt8) : Nat := l.foldl (fun a c => 10 * a + (c.toNat - 48)) 0

theorem numN_snoc (l : List UInt8) (c : UInt8) : numN (l ++ [c]) = 10 * numN l + (c.toNat - 48) := by simp [numN]
theorem numL_snoc (l : List UInt8) (c : UInt8) : numL (l ++ [c]) = 10 * numL l + ((c.toNat : Int) - 48) := by simp [numL]

theorem digit_bounds {c : UInt8} (h : digitB c = true) : 48 ≤ c.toNat ∧ c.toNat ≤ 57 := by simpa [digitB] using h

theorem numL_numN (l : List UInt8) (h : ∀ c ∈ l, digitB c = true) : numL l = (numN l : Int) := by
  have key : ∀ (l : List UInt8) (a : Nat), (∀ c ∈ l, digitB c = true) → l.foldl (fun (a : Int) (c : UInt8) => 10 * a + ((c.toNat : Int) - 48)) (a : Int) = ((l.foldl (fun (a : Nat) (c : UInt8) => 10 * a + (c.toNat - 48)) a : Nat) : Int) := by
    intro l
    induction l with
    | nil => intro a _; rfl
    | cons c l ih =>
      intro a h
      simp only [List.foldl_cons]
      have hc := digit_bounds (h c (by simp))
      have := ih (10 * a + (c.toNat - 48)) (fun d hd => h d (by simp [hd]))
      rw [← this]
      congr 1
      omega
  exact key l 0 h

theorem numN_lt : ∀ (l : List UInt8), (∀ c ∈ l, digitB c = true) → numN l < 10 ^ l.length := by
  intro l
  induction l using snoc_ind with
  | nil => intro _; simp [numN]
  | snoc l c ih =>
    intro h
    have := ih (fun d hd => h d (by simp [hd]))
    have hc := digit_bounds (h c (by simp))
    rw [numN_snoc, List.length_append, List.length_singleton, Nat.pow_succ]
    omega

theorem numN_pos : ∀ (l : List UInt8), (∀ c ∈ l, digitB c = true) → ∀ c, l.head? = some c → c ≠ 48 → 1 ≤ numN l := by
  intro l
  induction l using snoc_ind with
  | nil => intro _ c hc; simp at hc
  | snoc l d ih =>
    intro h c hc h48
    have hd := digit_bounds (h d (by simp))
    rw [numN_snoc]
    cases l with
    | nil =>
      have : c = d := by simpa using hc.symm
      subst this
      have : c.toNat ≠ 48 := fun e => h48 (UInt8.toNat_inj.1 e)
      omega
    | cons e l =>
      have := ih (fun d hd => h d (by rw [List.mem_append]; exact .inl hd)) c (by simpa using hc) h48
      omega

theorem ofNat_digit {c : UInt8} (h : digitB c = true) : UInt8.ofNat (48 + (c.toNat - 48)) = c := by
  have := digit_bounds h
  rw [show 48 + (c.toNat - 48) = c.toNat from by omega]
  exact UInt8.ofNat_toNat

/-- A numeral without noughts ahead is what its value is written as. -/
theorem dec_back : ∀ (l : List UInt8), (∀ c ∈ l, digitB c = true) → l ≠ [] → (l.length = 1 ∨ ∀ c, l.head? = some c → c ≠ 48) → Lib.decDigits (numN l) = l := by
  intro l
  induction l using snoc_ind with
  | nil => intro _ h; exact absurd rfl h
  | snoc l c ih =>
    intro h _ hh
    have hc := h c (by simp)
    have hb := digit_bounds hc
    rw [numN_snoc]
    cases l with
    | nil =>
      rw [show 10 * numN [] + (c.toNat - 48) = c.toNat - 48 from by simp [numN]]
      rw [Lib.decDigits_one (by omega), ofNat_digit hc]
      rfl
    | cons d l =>
      have hh' : ∀ c, (d :: l).head? = some c → c ≠ 48 := by
        rcases hh with h1 | h1
        · simp at h1
        · intro e he; exact h1 e (by simpa using he)
      have hp := numN_pos (d :: l) (fun e he => h e (by rw [List.mem_append]; exact .inl he)) d rfl (hh' d rfl)
      have ihl := ih (fun e he => h e (by rw [List.mem_append]; exact .inl he)) (by simp) (.inr hh')
      rw [Lib.decDigits, dif_neg (by omega)]
      have e1 : (10 * numN (d :: l) + (c.toNat - 48)) / 10 = numN (d :: l) := by omega
      have e2 : (10 * numN (d :: l) + (c.toNat - 48)) % 10 = c.toNat - 48 := by omega
      rw [e1, e2, ihl, ofNat_digit hc]

theorem dec_head : ∀ (u : Nat), 1 ≤ u → ∀ c, (Lib.decDigits u).head? = some c → c ≠ 48 := by
  intro u
  induction u using Nat.strongRecOn with
  | ind u ih =>
    intro hu c hc
    rw [Lib.decDigits] at hc
    by_cases h : u < 10
    · rw [dif_pos h] at hc
      have hc' : UInt8.ofNat (48 + u) = c := by simpa using hc
      subst hc'
      intro e
      have := congrArg UInt8.toNat e
      simp at this
      omega
    · rw [dif_neg h] at hc
      have hne : Lib.decDigits (u / 10) ≠ [] := by
        intro e
        have := Lib.decDigits_length (u / 10)
        rw [e] at this
        have := Lib.nDigits_pos (u / 10)
        simp at *
        omega
      obtain ⟨d, r, hdr⟩ : ∃ d r, Lib.decDigits (u / 10) = d :: r := by
        cases hx : Lib.decDigits (u / 10) with
        | nil => exact absurd hx hne
        | cons d r => exact ⟨d, r, rfl⟩
      have hi := ih (u / 10) (by omega) (by omega) c
      rw [hdr] at hi hc
      exact hi (by simpa using hc)

/-- A numeral with noughts ahead is not what its value is written as. -/
theorem dec_not (l : List UInt8) (h1 : 1 < l.length) (h0 : l.head? = some 48) : Lib.decDigits (numN l) ≠ l := by
  intro e
  by_cases hu : 1 ≤ numN l
  · exact dec_head _ hu 48 (by rw [e]; exact h0) rfl
  · have : numN l = 0 := by omega
    rw [this, Lib.decDigits_one (by omega)] at e
    rw [← e] at h1
    simp at h1

theorem parse_digits : ∀ (l : List UInt8) (acc : Nat), (∀ c ∈ l, digitB c = true) → (∃ u, Lib.parseUint10 acc l = .ok u) ∨ Lib.parseUint10 acc l = .range
  | [], acc, _ => .inl ⟨acc, by simp [Lib.parseUint10]⟩
  | c :: l, acc, h => by
    have hc := digit_bounds (h c (by simp))
    simp only [Lib.parseUint10, if_pos hc]
    split
    · exact .inr rfl
    · split
      · exact .inr rfl
      · exact parse_digits l _ (fun d hd => h d (by simp [hd]))

theorem parse_small : ∀ (l : List UInt8) (acc : Nat), (∀ c ∈ l, digitB c = true) → acc * 10 ^ l.length + 10 ^ l.length ≤ 1000000 → Lib.parseUint10 acc l = .ok (l.foldl (fun a c => 10 * a + (c.toNat - 48)) acc)
  | [], acc, _, _ => by simp [Lib.parseUint10]
  | c :: l, acc, h, hb => by
    have hc := digit_bounds (h c (by simp))
    have hp : 1 ≤ 10 ^ l.length := Nat.pos_of_ne_zero (by simp)
    simp only [List.length_cons, Nat.pow_succ] at hb
    have h10 : acc * 10 < 1000000 := by
      have : acc * 10 * 1 ≤ acc * 10 * 10 ^ l.length := Nat.mul_le_mul_left _ hp
      have e : acc * (10 ^ l.length * 10) = acc * 10 * 10 ^ l.length := by ac_rfl
      omega
    simp only [Lib.parseUint10, if_pos hc]
    rw [if_neg (by omega), if_neg (by omega)]
    rw [parse_small l _ (fun d hd => h d (by simp [hd])) ?_]
    · simp only [List.foldl_cons]
      rw [Nat.mul_comm acc 10]
    · have e : (acc * 10 + (c.toNat - 48)) * 10 ^ l.length + 10 ^ l.length = acc * (10 ^ l.length * 10) + (c.toNat - 48) * 10 ^ l.length + 10 ^ l.length := by
        rw [Nat.add_mul]; ac_rfl
      rw [e]
      have : (c.toNat - 48) * 10 ^ l.length ≤ 9 * 10 ^ l.length := Nat.mul_le_mul_right _ (by omega)
      omega

theorem digit_no_sign {c : UInt8} (h : digitB c = true) : ¬ (c.toNat = 43 ∨ c.toNat = 45) := by have := digit_bounds h; omega

theorem atoi_digits (l : List UInt8) (h : ∀ c ∈ l, digitB c = true) (hne : l ≠ []) : (∃ v, Lib.atoiAll l = .ok v) ∨ Lib.atoiAll l = .range := by
  cases l with
  | nil => exact absurd rfl hne
  | cons c r =>
    have hc := digit_no_sign (h c (by simp))
    have hp := parse_digits (c :: r) 0 h
    simp only [Lib.atoiAll, if_neg hc]
    have e : Lib.parseMag (c :: r) = Lib.parseUint10 0 (c :: r) := by simp [Lib.parseMag]
    rw [e]
    rcases hp with ⟨u, hu⟩ | hu
    · rw [hu]
      simp only
      split
      · exact .inr rfl
      · split
        · exact .inr rfl
        · exact .inl ⟨_, rfl⟩
    · rw [hu]
      exact .inr rfl

theorem atoi_small (l : List UInt8) (h : ∀ c ∈ l, digitB c = true) (hne : l ≠ []) (h6 : l.length ≤ 6) : Lib.atoiAll l = .ok (numL l) := by
  have hpow : 10 ^ l.length ≤ 10 ^ 6 := Nat.pow_le_pow_right (by omega) h6
  have hlt := numN_lt l h
  rw [numL_numN l h]
  cases l with
  | nil => exact absurd rfl hne
  | cons c r =>
    have hc := digit_no_sign (h c (by simp))
    have hp := parse_small (c :: r) 0 h (by omega)
    simp only [Lib.atoiAll, if_neg hc]
    have e : Lib.parseMag (c :: r) = Lib.parseUint10 0 (c :: r) := by simp [Lib.parseMag]
    rw [e, hp]
    have hn : (c :: r).foldl (fun a c => 10 * a + (c.toNat - 48)) 0 = numN (c :: r) := rfl
    rw [hn]
    have hm : ¬ c.toNat = 45 := fun e => hc (.inr e)
    simp only [hm]
    simp
    omega

theorem run_digits (l : List UInt8) : ∀ c ∈ l.take (runP digitB l), digitB c = true := by
  induction l with
  | nil => intro c hc; simp [runP] at hc
  | cons d l ih =>
    intro c hc
    by_cases h : digitB d = true
    · rw [runP_cons_pos h, List.take_succ_cons] at hc
      rcases List.mem_cons.1 hc with rfl | hc
      · exact h
      · exact ih c hc
    · rw [runP_cons_neg (by simpa using h)] at hc
      simp at hc
end Go.Proofs.YteomcjfnghbikaaDoor
