/- Plain laws of tokens: a token's text is that token; texts joined by blanks. -/
import Derived.Test.YtcgpobeidlimkaaGreatDoorLexM
namespace Go.Proofs.YtcgpobeidlimkaaGreatDoor
theorem runP_append_stop (p : UInt8 → Bool) (c : UInt8) (t : List UInt8) (hc : p c = false) : ∀ l : List UInt8, runP p (l ++ c :: t) = runP p l
  | [] => by rw [List.nil_append, runP_cons_neg hc, runP_nil]
  | d :: l => by
    have ih := runP_append_stop p c t hc l
    rw [List.cons_append]
    by_cases h : p d = true
    · rw [runP_cons_pos h, runP_cons_pos h, ih]
    · rw [runP_cons_neg (by simpa using h), runP_cons_neg (by simpa using h)]

theorem part_blank : partB 32 = false := by decide
theorem digit_blank : digitB 32 = false := by decide

theorem two_append (t : List UInt8) : ∀ l : List UInt8, l ≠ [] → two (l ++ 32 :: t) = two l
  | [], h => absurd rfl h
  | [c], _ => by
    simp only [List.cons_append, List.nil_append]
    unfold two
    split
    · rename_i h; simp at h
    · rename_i h; simp at h
    · split <;> simp_all
  | c :: d :: l, _ => by
    simp only [List.cons_append]
    unfold two
    split <;> split <;> simp_all

/-- A blank behind a text leaves its first token. -/
theorem headT_append (t : List UInt8) (l : List UInt8) (hl : l ≠ []) : headT (l ++ 32 :: t) = headT l := by
  cases l with
  | nil => exact absurd rfl hl
  | cons c l =>
    have e1 := runP_append_stop partB 32 t part_blank (c :: l)
    have e2 := runP_append_stop digitB 32 t digit_blank (c :: l)
    have e3 := two_append t (c :: l) (by simp)
    have e4 : ((c :: l) ++ 32 :: t).take (runP digitB (c :: l)) = (c :: l).take (runP digitB (c :: l)) := by
      rw [List.take_append_of_le_length (runP_le _ _)]
    rw [List.cons_append] at e1 e2 e3 e4 ⊢
    simp only [headT, e1, e2, e3, e4]

theorem runP_take (p : UInt8 → Bool) : ∀ l : List UInt8, runP p (l.take (runP p l)) = runP p l
  | [] => by simp [runP]
  | c :: l => by
    by_cases h : p c = true
    · rw [runP_cons_pos h, List.take_succ_cons, runP_cons_pos h, runP_take p l]
    · rw [runP_cons_neg (by simpa using h)]; simp [runP]

/-- A token's own text is that token again. -/
theorem headT_take {l : List UInt8} {k : Int} {n : Nat} {v : Int} (h : headT l = some (k, n, v)) : headT (l.take n) = some (k, n, v) := by
  have hn := headT_len h
  cases l with
  | nil => simp [headT] at h
  | cons c l =>
    have e : (c :: l).take n = c :: l.take (n - 1) := by
      cases n with
      | zero => omega
      | succ n => simp
    rw [e]
    simp only [headT] at h ⊢
    rw [← e]
    by_cases hc : letterB c = true
    · rw [if_pos hc] at h ⊢
      obtain ⟨rfl, hn', rfl⟩ : 1 = k ∧ runP partB (c :: l) = n ∧ 0 = v := by simpa using h
      rw [← hn', runP_take]
    · rw [if_neg hc] at h ⊢
      by_cases hd : digitB c = true
      · rw [if_pos hd] at h ⊢
        by_cases hx : 6 < runP digitB (c :: l) ∨ 1 < runP digitB (c :: l) ∧ c = 48
        · rw [if_pos hx] at h; cases h
        · rw [if_neg hx] at h
          obtain ⟨rfl, hn', hv⟩ : 2 = k ∧ runP digitB (c :: l) = n ∧ numLx ((c :: l).take (runP digitB (c :: l))) = v := by simpa using h
          rw [← hn', runP_take, if_neg hx, List.take_take, Nat.min_self, hn', ← hv, hn']
      · rw [if_neg hd] at h ⊢
        by_cases h2 : two (c :: l) = true
        · rw [if_pos h2] at h
          obtain ⟨rfl, rfl, rfl⟩ : 3 = k ∧ 2 = n ∧ 0 = v := by simpa using h
          have : two ((c :: l).take 2) = true := by
            unfold two at h2
            split at h2
            · rename_i h; rw [h]; rfl
            · rename_i h; rw [h]; rfl
            · cases h2
          rw [if_pos this]
        · rw [if_neg h2] at h
          by_cases h3 : signB c = true
          · rw [if_pos h3] at h ⊢
            obtain ⟨rfl, rfl, rfl⟩ : 3 = k ∧ 1 = n ∧ 0 = v := by simpa using h
            have : two ((c :: l).take 1) = false := by
              simp only [List.take_succ_cons, List.take_zero]
              unfold two
              split <;> simp_all
            rw [this]
            simp
          · rw [if_neg h3] at h; cases h

/-- The first byte of a token is no blank. -/
theorem headT_blank {c : UInt8} {l : List UInt8} {x : Int × Nat × Int} (h : headT (c :: l) = some x) : blankB c = false := by
  have hc : blankB c = true → headT (c :: l) = none := by
    intro hb
    have : c = 32 ∨ c = 10 := by simpa [blankB] using hb
    rcases this with rfl | rfl
    · simp only [headT]
      rw [if_neg (by decide), if_neg (by decide), if_neg (by unfold two; split <;> simp_all), if_neg (by decide)]
    · simp only [headT]
      rw [if_neg (by decide), if_neg (by decide), if_neg (by unfold two; split <;> simp_all), if_neg (by decide)]
  cases hb : blankB c with
  | false => rfl
  | true => rw [hc hb] at h; cases h

/-- Two lists of tokens, but for their places. -/
def alike (a b : Tok) : Prop := a.kind = b.kind ∧ a.text = b.text ∧ a.n = b.n

/-- A token that stands by itself. -/
def Good (t : Tok) : Prop := headT t.text = some (t.kind, t.text.length, t.n)

theorem lexF_good : ∀ (f : Nat) (l : List UInt8) (i : Nat), (lexF f l i).2 = none → l.length < f → ∃ ts : List Tok, ∃ e : Tok, (lexF f l i).1 = ts ++ [e] ∧ (∀ t ∈ ts, Good t) ∧ e.kind = 0 ∧ e.text = [] ∧ e.n = 0 ∧ e.place = i + l.length
  | 0, _, _, _, h => by omega
  | f + 1, l, i, hn, hf => by
    simp only [lexF] at hn ⊢
    have hb := runP_le blankB l
    split at hn
    · rename_i hd
      have hlen : l.length ≤ runP blankB l := by simpa using hd
      exact ⟨[], _, by simp; exact rfl, by simp, rfl, rfl, rfl, by simp; omega⟩
    · rename_i c m hm
      have hlen := congrArg List.length hm
      simp at hlen
      split at hn
      · cases hn
      · rename_i k n v hk
        have h1 := headT_len hk
        simp only [List.length_cons] at h1
        simp only at hn
        obtain ⟨ts, e, h2, h3, h4, h5, h6, h7⟩ := lexF_good f _ _ hn (by simp; omega)
        simp only []
        refine ⟨⟨k, (c :: m).take n, v, _⟩ :: ts, e, by rw [h2]; rfl, ?_, h4, h5, h6, ?_⟩
        · intro t ht
          rcases List.mem_cons.1 ht with rfl | ht
          · unfold Good
            rw [headT_take hk, List.length_take, Nat.min_eq_left (by simp; omega)]
          · exact h3 t ht
        · rw [h7]; simp; omega

/-- The texts, a blank ahead of each. -/
def joinB (ts : List Tok) : List UInt8 := ts.flatMap fun t => 32 :: t.text

theorem joinB_cons (t : Tok) (ts : List Tok) : joinB (t :: ts) = 32 :: (t.text ++ joinB ts) := by simp [joinB]
theorem joinB_last (ts : List Tok) (e : Tok) : ∃ r, joinB (ts ++ [e]) = 32 :: r := by
  cases ts with
  | nil => exact ⟨_, by rw [List.nil_append, joinB_cons]⟩
  | cons t ts => exact ⟨_, by rw [List.cons_append, joinB_cons]⟩

theorem lexF_join (e : Tok) (he : e.kind = 0 ∧ e.text = [] ∧ e.n = 0) : ∀ (ts : List Tok) (f i : Nat), (∀ t ∈ ts, Good t) → (joinB (ts ++ [e])).length < f →
    ∃ us, lexF f (joinB (ts ++ [e])) i = (us, none) ∧ us.length = (ts ++ [e]).length ∧ ∀ k (h : k < us.length) (h' : k < (ts ++ [e]).length), alike us[k] (ts ++ [e])[k]
  | _, 0, _, _, h => by omega
  | [], f + 1, i, _, _ => by
    have hj : joinB ([] ++ [e]) = [32] := by simp [joinB, he.2.1]
    rw [hj]
    refine ⟨_, rfl, rfl, ?_⟩
    intro k h h'
    simp at h'
    subst h'
    exact ⟨he.1.symm, he.2.1.symm, he.2.2.symm⟩
  | t :: ts, f + 1, i, hg, hf => by
    have hgt : Good t := hg t (by simp)
    unfold Good at hgt
    obtain ⟨r, hr⟩ := joinB_last ts e
    have ht0 := headT_len hgt
    obtain ⟨c, m, hcm⟩ : ∃ c m, t.text = c :: m := by
      cases h : t.text with
      | nil => rw [h] at ht0; simp at ht0
      | cons c m => exact ⟨c, m, rfl⟩
    have hj : joinB (t :: ts ++ [e]) = 32 :: (t.text ++ 32 :: r) := by rw [List.cons_append, joinB_cons, hr]
    have hb : runP blankB (32 :: (t.text ++ 32 :: r)) = 1 := by
      rw [runP_cons_pos (by decide), hcm, List.cons_append, runP_cons_neg (headT_blank (by rw [hcm] at hgt; exact hgt))]
    have hh : headT (t.text ++ 32 :: r) = some (t.kind, t.text.length, t.n) := by rw [headT_append _ _ (by rw [hcm]; simp)]; exact hgt
    have hf' : (joinB (ts ++ [e])).length < f := by
      rw [hj] at hf; rw [hr]; simp at hf ⊢; omega
    obtain ⟨us, h1, h2, h3⟩ := lexF_join e he ts f (i + 1 + t.text.length) (fun u hu => hg u (by simp [hu])) hf'
    have hd : (t.text ++ 32 :: r).drop t.text.length = joinB (ts ++ [e]) := by rw [List.drop_left, hr]
    have htk : (t.text ++ 32 :: r).take t.text.length = t.text := by rw [List.take_left]
    have hstep : lexF (f + 1) (joinB (t :: ts ++ [e])) i = (⟨t.kind, t.text, t.n, i + 1⟩ :: us, none) := by
      rw [hj]
      simp only [lexF, hb, List.drop_succ_cons, List.drop_zero]
      rw [hcm] at hh hd htk ⊢
      simp only [List.cons_append] at hh hd htk ⊢
      simp only [hh, hd, htk]
      rw [← hcm, h1]
    refine ⟨_, hstep, by simp [h2], ?_⟩
    intro k h h'
    cases k with
    | zero => exact ⟨rfl, rfl, rfl⟩
    | succ k =>
      simp only [List.cons_append, List.getElem_cons_succ]
      exact h3 k (by simpa using h) (by simpa using h')

def key (t : Tok) : Int × List UInt8 × Int := (t.kind, t.text, t.n)

/-- Places alone turn where a text lies further on. -/
theorem lexF_shift : ∀ (f : Nat) (l : List UInt8) (i j : Nat), (lexF f l i).1.map key = (lexF f l j).1.map key ∧ (lexF f l i).2.isSome = (lexF f l j).2.isSome
  | 0, _, _, _ => ⟨rfl, rfl⟩
  | f + 1, l, i, j => by
    simp only [lexF]
    split
    · exact ⟨rfl, rfl⟩
    · split
      · exact ⟨rfl, rfl⟩
      · rename_i _ c m _ _ k n v _
        have := lexF_shift f ((c :: m).drop n) (i + runP blankB l + n) (j + runP blankB l + n)
        exact ⟨by simp only [List.map_cons]; rw [this.1]; rfl, this.2⟩

theorem runP_all (p : UInt8 → Bool) (t : List UInt8) : ∀ l : List UInt8, l.drop (runP p l) = [] → runP p (l ++ t) = l.length + runP p t
  | [], _ => by simp
  | c :: l, h => by
    by_cases hc : p c = true
    · rw [runP_cons_pos hc] at h
      rw [List.cons_append, runP_cons_pos hc, runP_all p t l (by simpa using h)]
      simp; omega
    · rw [runP_cons_neg (by simpa using hc)] at h
      simp at h

theorem runP_some (p : UInt8 → Bool) (t : List UInt8) : ∀ l : List UInt8, l.drop (runP p l) ≠ [] → runP p (l ++ t) = runP p l
  | [], h => absurd rfl h
  | c :: l, h => by
    by_cases hc : p c = true
    · rw [runP_cons_pos hc] at h
      rw [List.cons_append, runP_cons_pos hc, runP_cons_pos hc, runP_some p t l (by simpa using h)]
    · rw [List.cons_append, runP_cons_neg (by simpa using hc), runP_cons_neg (by simpa using hc)]

theorem lexF_parts (t : List UInt8) : ∀ (f : Nat) (l : List UInt8) (i F : Nat), l.length < f → (l ++ 32 :: t).length < F →
    (∀ j, (lexF f l i).2 = some j → (lexF F (l ++ 32 :: t) i).2 = some j) ∧
    ((lexF f l i).2 = none → lexF F (l ++ 32 :: t) i = ((lexF f l i).1.dropLast ++ (lexF F t (i + l.length + 1)).1, (lexF F t (i + l.length + 1)).2))
  | 0, _, _, _, h, _ => by omega
  | _ + 1, _, _, 0, _, h => by omega
  | f + 1, l, i, F + 1, hf, hF => by
    have hbl := runP_le blankB l
    have hm : ∀ m, l.drop (runP blankB l) = m → (m = [] ∨ ∃ c r, m = c :: r) := fun m _ => by cases m <;> simp
    rcases hm _ rfl with hm | ⟨c, m, hm⟩
    · have e : lexF (F + 1) (l ++ 32 :: t) i = lexF (F + 1) t (i + l.length + 1) := by
        simp only [lexF]
        rw [runP_all blankB (32 :: t) l hm, runP_cons_pos (by decide)]
        have : (l ++ 32 :: t).drop (l.length + (runP blankB t + 1)) = t.drop (runP blankB t) := by
          rw [← List.drop_drop, List.drop_left, List.drop_succ_cons]
        rw [this, show i + (l.length + (runP blankB t + 1)) = i + l.length + 1 + runP blankB t from by omega]
      have e2 : lexF (f + 1) l i = ([⟨0, [], 0, i + runP blankB l⟩], none) := by simp only [lexF, hm]
      rw [e, e2]
      exact ⟨fun j h => by simp at h, fun _ => by simp⟩
    · have hne : l.drop (runP blankB l) ≠ [] := by rw [hm]; simp
      have hr := runP_some blankB (32 :: t) l hne
      have hd : (l ++ 32 :: t).drop (runP blankB l) = c :: (m ++ 32 :: t) := by
        rw [List.drop_append_of_le_length hbl, hm, List.cons_append]
      have hh : headT (c :: (m ++ 32 :: t)) = headT (c :: m) := by
        have := headT_append t (c :: m) (by simp)
        rwa [List.cons_append] at this
      simp only [lexF, hr, hd, hh, hm]
      cases hk : headT (c :: m) with
      | none => exact ⟨fun j h => h, fun h => by simp at h⟩
      | some x =>
        obtain ⟨k, n, v⟩ := x
        have h1 := headT_len hk
        have hlen := congrArg List.length hm
        simp at hlen
        simp only
        have h2 : (c :: (m ++ 32 :: t)).drop n = (c :: m).drop n ++ 32 :: t := by
          rw [← List.cons_append, List.drop_append_of_le_length h1.2]
        have h3 : (c :: (m ++ 32 :: t)).take n = (c :: m).take n := by
          rw [← List.cons_append, List.take_append_of_le_length h1.2]
        rw [h2, h3]
        simp only [List.length_append, List.length_cons] at hF h1
        obtain ⟨p1, p2⟩ := lexF_parts t f ((c :: m).drop n) (i + runP blankB l + n) F (by simp; omega) (by simp; omega)
        refine ⟨p1, fun hn => ?_⟩
        rw [p2 hn]
        have hplace : i + runP blankB l + n + ((c :: m).drop n).length + 1 = i + l.length + 1 := by simp; omega
        rw [hplace]
        have hq : lexF F t (i + l.length + 1) = lexF (F + 1) t (i + l.length + 1) := lexF_fuel _ _ _ _ (by omega) (by omega)
        rw [hq]
        obtain ⟨ts, e, h4, _⟩ := lexF_good f _ _ hn (by simp; omega)
        rw [h4]
        simp only [lexF]
        have hdl : ∀ x : Tok, (x :: (ts ++ [e])).dropLast = x :: ts := fun x => by rw [← List.cons_append, List.dropLast_concat]
        rw [hdl, List.dropLast_concat, List.cons_append]
end Go.Proofs.YtcgpobeidlimkaaGreatDoor
