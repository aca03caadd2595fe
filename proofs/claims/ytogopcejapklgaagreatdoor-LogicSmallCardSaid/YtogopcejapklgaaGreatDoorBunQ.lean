/- Plain: the document's parser: a place, a count, an error; it agrees with parL. -/
import Derived.Test.YtogopcejapklgaaGreatDoorBunF
namespace Go.Proofs.YtogopcejapklgaaGreatDoor

/-- A place, a count, an error. -/
structure PS where
  i : Nat
  c : Nat
  e : Int
/-- The token at the place. -/
def tkP (T : List Tok) (i : Nat) : Tok := hdT (T.drop i)
def failS (er : Int) (s : PS) : PS := if s.e = 0 then ⟨s.i, s.c, er⟩ else s
def nextS (s : PS) : PS := ⟨s.i + 1, s.c, s.e⟩
def needS (T : List Tok) (w : List UInt8) (s : PS) : PS :=
  let s1 := if (tkP T s.i).kind = 0 ∨ (tkP T s.i).text ≠ w then failS 21 s else s
  if s1.e = 0 then nextS s1 else s1
/-- The sign ahead of number or part j. -/
def sgnJ (j : Nat) : List UInt8 := if j = 0 then [40] else [44]
def numS (T : List Tok) (j : Nat) (x : PS × List Int) : PS × List Int :=
  let s1 := needS T (sgnJ j) x.1
  let s2 := if (tkP T s1.i).kind ≠ 2 then failS 21 s1 else s1
  if s2.e = 0 then (nextS s2, x.2 ++ [(tkP T s2.i).n]) else (s2, x.2)
def numsS (T : List Tok) : Nat → PS × List Int → PS × List Int
  | 0, x => x
  | m + 1, x => numS T m (numsS T m x)
def kidS (T : List Tok) (p : PS → Fm × PS) (j : Nat) (x : PS × List Fm) : PS × List Fm :=
  let r := p (needS T (sgnJ j) x.1)
  (r.2, x.2 ++ [r.1])
def kidsS (T : List Tok) (p : PS → Fm × PS) : Nat → PS × List Fm → PS × List Fm
  | 0, x => x
  | m + 1, x => kidS T p m (kidsS T p m x)
def shutS (T : List Tok) (m : Nat) (s : PS) : PS := if m = 0 then s else needS T [41] s
def kdP (s : List UInt8) : Int := (shpW s).getD 0
def kdF (s : List UInt8) : Int := (frmW s).getD 0
/-- The formula's state behind its first tests. -/
def headS (T : List Tok) (d : Nat) (s : PS) : PS :=
  let s0 : PS := ⟨s.i, s.c + 1, s.e⟩
  let s1 := if d = 0 ∨ 200 < s.c + 1 then failS 2 s0 else s0
  if kdF (tkP T s.i).text = 0 ∧ kdP (tkP T s.i).text = 0 then failS 21 s1 else s1
/-- An atom's numbers, and its bracket. -/
def atomS (T : List Tok) (k : Int) (s : PS) : Fm × PS :=
  let x := numsS T (offs k).length (nextS s, [])
  let s2 := shutS T (offs k).length x.1
  if s2.e ≠ 0 then (zeroF, s2) else (.mk 3 (ofP k x.2) [], s2)
/-- The document's formula. -/
def fmS (T : List Tok) : Nat → PS → Fm × PS
  | 0, s => (zeroF, headS T 0 s)
  | d + 1, s =>
    let s2 := headS T (d + 1) s
    if s2.e ≠ 0 then (zeroF, s2) else
    if 0 < kdP (tkP T s.i).text then atomS T (kdP (tkP T s.i).text) s2 else
      let x := kidsS T (fmS T d) (frmK (kdF (tkP T s.i).text)) (nextS s2, [])
      (.mk (kdF (tkP T s.i).text) Pr.zero x.2, shutS T (frmK (kdF (tkP T s.i).text)) x.1)

theorem failS_bad {er : Int} {s : PS} (h : s.e ≠ 0) : failS er s = s := by unfold failS; rw [if_neg h]
theorem needS_bad {T : List Tok} {w : List UInt8} {s : PS} (h : s.e ≠ 0) : needS T w s = s := by
  unfold needS
  simp only [failS_bad h, ite_self]
  rw [if_neg h]
theorem headS_bad {T : List Tok} {d : Nat} {s : PS} (h : s.e ≠ 0) : headS T d s = ⟨s.i, s.c + 1, s.e⟩ := by
  unfold headS
  simp only [failS_bad (s := ⟨s.i, s.c + 1, s.e⟩) h, ite_self]
theorem headS_zero (T : List Tok) (s : PS) : (headS T 0 s).e ≠ 0 := by
  unfold headS failS
  simp only [true_or, if_true]
  repeat' split
  all_goals simp_all
theorem fmS_bad {T : List Tok} {d : Nat} {s : PS} (h : s.e ≠ 0) : fmS T d s = (zeroF, ⟨s.i, s.c + 1, s.e⟩) := by
  cases d with
  | zero => rw [fmS, headS_bad h]
  | succ d =>
    rw [fmS]
    simp only [headS_bad h]
    rw [if_pos h]

/-- Places stay among the tokens. -/
theorem tkP_lt {T : List Tok} (hE : Ends T) {i : Nat} (hi : i < T.length) (h : (tkP T i).kind ≠ 0 ∨ (tkP T i).text ≠ []) : i + 1 < T.length := by
  obtain ⟨M, e, rfl, h0, h1⟩ := hE
  rw [List.length_append, List.length_singleton] at hi ⊢
  by_cases hl : i = M.length
  · subst hl
    have : tkP (M ++ [e]) M.length = e := by simp [tkP, hdT]
    rw [this] at h
    rcases h with h | h
    · exact absurd h0 h
    · exact absurd h1 h
  · omega
theorem needS_lt {T : List Tok} (hE : Ends T) {w : List UInt8} {s : PS} (hi : s.i < T.length) : (needS T w s).i < T.length := by
  unfold needS failS nextS
  simp only
  by_cases hb : (tkP T s.i).kind = 0 ∨ (tkP T s.i).text ≠ w
  · rw [if_pos hb]
    by_cases he : s.e = 0
    · rw [if_pos he, if_neg (show ¬ (21 : Int) = 0 by decide)]
      exact hi
    · rw [if_neg he, if_neg he]
      exact hi
  · rw [if_neg hb]
    have := tkP_lt hE hi (.inl fun h => hb (.inl h))
    by_cases he : s.e = 0
    · rw [if_pos he]
      exact this
    · rw [if_neg he]
      exact hi
theorem needS_c {T : List Tok} {w : List UInt8} {s : PS} : (needS T w s).c = s.c := by
  unfold needS failS nextS
  simp only
  repeat' split
  all_goals rfl
theorem failS_i {er : Int} {s : PS} : (failS er s).i = s.i ∧ (failS er s).c = s.c := by
  unfold failS
  split <;> exact ⟨rfl, rfl⟩
theorem headS_i {T : List Tok} {d : Nat} {s : PS} : (headS T d s).i = s.i ∧ (headS T d s).c = s.c + 1 := by
  unfold headS
  simp only
  repeat' split
  all_goals simp [failS_i]
theorem shutS_c {T : List Tok} {m : Nat} {s : PS} : (shutS T m s).c = s.c := by
  unfold shutS
  split
  · rfl
  · exact needS_c
theorem shutS_lt {T : List Tok} (hE : Ends T) {m : Nat} {s : PS} (hi : s.i < T.length) : (shutS T m s).i < T.length := by
  unfold shutS
  split
  · exact hi
  · exact needS_lt hE hi
theorem numS_c {T : List Tok} {j : Nat} {x : PS × List Int} : (numS T j x).1.c = x.1.c := by
  unfold numS
  simp only
  repeat' split
  all_goals simp [failS_i, nextS, needS_c]
theorem numS_lt {T : List Tok} (hE : Ends T) {j : Nat} {x : PS × List Int} (hi : x.1.i < T.length) : (numS T j x).1.i < T.length := by
  have h1 := needS_lt hE (w := sgnJ j) hi
  unfold numS
  simp only
  by_cases hk : (tkP T (needS T (sgnJ j) x.1).i).kind ≠ 2
  · rw [if_pos hk]
    have hf := failS_i (er := 21) (s := needS T (sgnJ j) x.1)
    by_cases he : (failS 21 (needS T (sgnJ j) x.1)).e = 0
    · exfalso
      unfold failS at he
      split at he
      · simp at he
      · contradiction
    · rw [if_neg he]
      simp only [hf.1]
      exact h1
  · rw [if_neg hk]
    split
    · refine tkP_lt hE h1 (.inl fun h => hk ?_)
      rw [h]
      decide
    · exact h1
theorem numsS_c {T : List Tok} : ∀ {m : Nat} {x : PS × List Int}, (numsS T m x).1.c = x.1.c
  | 0, _ => rfl
  | m + 1, x => by rw [numsS, numS_c, numsS_c]
theorem numsS_lt {T : List Tok} (hE : Ends T) : ∀ {m : Nat} {x : PS × List Int}, x.1.i < T.length → (numsS T m x).1.i < T.length
  | 0, _, h => h
  | m + 1, x, h => by rw [numsS]; exact numS_lt hE (numsS_lt hE h)
/-- A word stands at the place, if there is no error. -/
theorem headS_word {T : List Tok} {d : Nat} {s : PS} (h : (headS T d s).e = 0) : (tkP T s.i).text ≠ [] := by
  intro h0
  have h1 : kdF (tkP T s.i).text = 0 ∧ kdP (tkP T s.i).text = 0 := by rw [h0]; exact ⟨rfl, rfl⟩
  unfold headS at h
  simp only [h1, and_self, if_true] at h
  unfold failS at h
  simp only at h
  repeat' split at h
  all_goals simp_all
theorem two_nat (d : Nat) : 1 ≤ 2 ^ d ∧ 2 ^ (d + 1) = 2 * 2 ^ d := ⟨Nat.pow_pos (by omega), by rw [Nat.pow_succ, Nat.mul_comm]⟩
theorem atomS_two {T : List Tok} {k : Int} {s : PS} : (atomS T k s).2 = shutS T (offs k).length (numsS T (offs k).length (nextS s, [])).1 := by
  unfold atomS
  simp only
  split <;> rfl
theorem kidsS_at {T : List Tok} (hE : Ends T) {p : PS → Fm × PS} {P : Nat} (hp : ∀ s : PS, s.i < T.length → (p s).2.i < T.length ∧ (p s).2.c + 1 ≤ s.c + P) : ∀ (m : Nat) (x : PS × List Fm), x.1.i < T.length →
    (kidsS T p m x).1.i < T.length ∧ (kidsS T p m x).1.c + m ≤ x.1.c + m * P ∧ (kidsS T p m x).2.length = x.2.length + m
  | 0, x, h => by rw [kidsS]; exact ⟨h, by omega, rfl⟩
  | m + 1, x, h => by
    obtain ⟨h1, h2, h3⟩ := kidsS_at hE hp m x h
    rw [kidsS]
    unfold kidS
    simp only
    obtain ⟨g1, g2⟩ := hp (needS T (sgnJ m) (kidsS T p m x).1) (needS_lt hE h1)
    rw [needS_c] at g2
    refine ⟨g1, ?_, by rw [List.length_append, h3]; simp; omega⟩
    rw [Nat.add_mul]
    omega
theorem fmS_at {T : List Tok} (hE : Ends T) : ∀ (d : Nat) (s : PS), s.i < T.length → (fmS T d s).2.i < T.length ∧ (fmS T d s).2.c + 1 ≤ s.c + 2 ^ (d + 1)
  | 0, s, hi => by
    rw [fmS]
    simp only [headS_i]
    exact ⟨hi, by omega⟩
  | d + 1, s, hi => by
    obtain ⟨hp1, hp2⟩ := two_nat (d + 1)
    obtain ⟨hp3, hp4⟩ := two_nat d
    rw [fmS]
    simp only
    have hh := headS_i (T := T) (d := d + 1) (s := s)
    by_cases he : (headS T (d + 1) s).e ≠ 0
    · rw [if_pos he]
      simp only [hh]
      exact ⟨hi, by omega⟩
    · rw [if_neg he]
      have hn : (nextS (headS T (d + 1) s)).i < T.length := by
        unfold nextS
        rw [hh.1]
        exact tkP_lt hE hi (.inr (headS_word (by simpa using he)))
      have hnc : (nextS (headS T (d + 1) s)).c = s.c + 1 := hh.2
      by_cases hk : 0 < kdP (tkP T s.i).text
      · rw [if_pos hk, atomS_two]
        refine ⟨shutS_lt hE (numsS_lt hE hn), ?_⟩
        rw [shutS_c, numsS_c, hnc]
        omega
      · rw [if_neg hk]
        obtain ⟨k1, k2, -⟩ := kidsS_at hE (fmS_at hE d) (frmK (kdF (tkP T s.i).text)) (nextS (headS T (d + 1) s), []) hn
        refine ⟨shutS_lt hE k1, ?_⟩
        rw [shutS_c]
        have hm := frmK_le (kdF (tkP T s.i).text)
        generalize frmK (kdF (tkP T s.i).text) = m at *
        simp only [hnc] at k2
        have : m = 0 ∨ m = 1 ∨ m = 2 := by omega
        rcases this with rfl | rfl | rfl <;> omega

/-- What the document's parser does is what parL says. -/
def Agr (T : List Tok) (r : Rs (Fm × List Tok × Nat)) (o : Fm × PS) : Prop :=
  match r with
  | .ok (f, L, c) => o.1 = f ∧ T.drop o.2.i = L ∧ o.2.c = c ∧ o.2.e = 0
  | .bad er pl => o.2.e = er ∧ er ≠ 0 ∧ (tkP T o.2.i).place = pl
def Agn (T : List Tok) (r : Rs (List Tok)) (s : PS) : Prop :=
  match r with
  | .ok L => T.drop s.i = L ∧ s.e = 0
  | .bad er pl => s.e = er ∧ er ≠ 0 ∧ (tkP T s.i).place = pl
theorem needS_ok {T : List Tok} {w : List UInt8} {s : PS} (he : s.e = 0) : Agn T (needP w (T.drop s.i)) (needS T w s) := by
  unfold needP needS failS nextS Agn tkP
  by_cases hc : (hdT (T.drop s.i)).kind ≠ 0 ∧ (hdT (T.drop s.i)).text = w
  · rw [if_pos hc]
    have hn : ¬ ((hdT (T.drop s.i)).kind = 0 ∨ (hdT (T.drop s.i)).text ≠ w) := fun h => h.elim hc.1 fun h => h hc.2
    simp only
    rw [if_neg hn, if_pos he]
    exact ⟨by simp, he⟩
  · rw [if_neg hc]
    have hn : (hdT (T.drop s.i)).kind = 0 ∨ (hdT (T.drop s.i)).text ≠ w := by
      by_cases h : (hdT (T.drop s.i)).kind = 0
      · exact .inl h
      · exact .inr fun h2 => hc ⟨h, h2⟩
    simp only
    rw [if_pos hn, if_pos he]
    simp
theorem shutS_ok {T : List Tok} {m : Nat} {s : PS} (he : s.e = 0) : Agn T (shutP m (T.drop s.i)) (shutS T m s) := by
  unfold shutP shutS
  by_cases hm : m = 0
  · rw [if_pos hm, if_pos hm]
    exact ⟨rfl, he⟩
  · rw [if_neg hm, if_neg hm]
    exact needS_ok he
theorem shutS_bad {T : List Tok} {m : Nat} {s : PS} (h : s.e ≠ 0) : shutS T m s = s := by
  unfold shutS
  split
  · rfl
  · exact needS_bad h
theorem numS_bad {T : List Tok} {j : Nat} {x : PS × List Int} (h : x.1.e ≠ 0) : numS T j x = x := by
  unfold numS
  simp only [needS_bad h, failS_bad h, ite_self]
  rw [if_neg h]
/-- The numbers, by the place that the loop counts from. -/
def numsG (T : List Tok) (a : Nat) : Nat → PS × List Int → PS × List Int
  | 0, x => x
  | m + 1, x => numsG T (a + 1) m (numS T a x)
theorem numsG_bad {T : List Tok} : ∀ (m a : Nat) {x : PS × List Int}, x.1.e ≠ 0 → numsG T a m x = x
  | 0, _, _, _ => rfl
  | m + 1, a, x, h => by rw [numsG, numS_bad h, numsG_bad m _ h]
theorem numsG_snoc {T : List Tok} : ∀ (m a : Nat) (x : PS × List Int), numsG T a (m + 1) x = numS T (a + m) (numsG T a m x)
  | 0, _, _ => rfl
  | m + 1, a, x => by
    rw [numsG, numsG_snoc m (a + 1), numsG, show a + 1 + m = a + (m + 1) by omega]
theorem numsG_eq {T : List Tok} : ∀ (m : Nat) (x : PS × List Int), numsG T 0 m x = numsS T m x
  | 0, _ => rfl
  | m + 1, x => by rw [numsG_snoc, numsS, numsG_eq m x, Nat.zero_add]
def Agm (T : List Tok) (l : List Int) (c : Nat) (r : Rs (List Int × List Tok)) (o : PS × List Int) : Prop :=
  match r with
  | .ok (r, L) => o.2 = l ++ r ∧ T.drop o.1.i = L ∧ o.1.e = 0 ∧ o.1.c = c
  | .bad er pl => o.1.e = er ∧ er ≠ 0 ∧ (tkP T o.1.i).place = pl
theorem numsG_ok {T : List Tok} : ∀ (m a : Nat) (x : PS × List Int), x.1.e = 0 → Agm T x.2 x.1.c (numsL m (sgnJ a) (T.drop x.1.i)) (numsG T a m x)
  | 0, a, x, he => by
    rw [numsL, numsG]
    exact ⟨by simp, rfl, he, rfl⟩
  | m + 1, a, x, he => by
    rw [numsL, numsG]
    have h1 := needS_ok (T := T) (w := sgnJ a) he
    have hcc := needS_c (T := T) (w := sgnJ a) (s := x.1)
    generalize hn : numS T a x = y
    unfold numS at hn
    simp only at hn
    generalize needS T (sgnJ a) x.1 = s1 at *
    cases hp : needP (sgnJ a) (T.drop x.1.i) with
    | bad er pl =>
      rw [hp] at h1
      obtain ⟨g1, g2, g3⟩ := h1
      have hs1 : s1.e ≠ 0 := by rw [g1]; exact g2
      simp only [failS_bad hs1, ite_self] at hn
      rw [if_neg hs1] at hn
      subst hn
      rw [numsG_bad _ _ hs1]
      exact ⟨g1, g2, g3⟩
    | ok L1 =>
      rw [hp] at h1
      obtain ⟨g1, g2⟩ := h1
      subst g1
      simp only
      by_cases hk : (hdT (T.drop s1.i)).kind = 2
      · rw [if_pos hk]
        have hk' : ¬ (tkP T s1.i).kind ≠ 2 := fun h => h hk
        rw [if_neg hk', if_pos g2] at hn
        have hy : y.1.e = 0 ∧ y.1.i = s1.i + 1 ∧ y.1.c = x.1.c ∧ y.2 = x.2 ++ [(hdT (T.drop s1.i)).n] := by subst hn; exact ⟨g2, rfl, hcc, rfl⟩
        obtain ⟨y1, y2, y3, y4⟩ := hy
        have ih := numsG_ok (T := T) m (a + 1) y y1
        rw [show sgnJ (a + 1) = [44] from rfl, y2, y3, y4] at ih
        have htl : (T.drop s1.i).tail = T.drop (s1.i + 1) := by simp
        rw [htl]
        cases hr : numsL m [44] (T.drop (s1.i + 1)) with
        | bad er pl => rw [hr] at ih; exact ih
        | ok r =>
          obtain ⟨r, L2⟩ := r
          rw [hr] at ih
          obtain ⟨i1, i2, i3, i4⟩ := ih
          exact ⟨by rw [i1]; simp, i2, i3, i4⟩
      · rw [if_neg hk]
        have hk' : (tkP T s1.i).kind ≠ 2 := hk
        rw [if_pos hk'] at hn
        have hf : failS 21 s1 = ⟨s1.i, s1.c, 21⟩ := by unfold failS; rw [if_pos g2]
        rw [hf, if_neg (show ¬ (21 : Int) = 0 by decide)] at hn
        subst hn
        rw [numsG_bad _ _ (show (21 : Int) ≠ 0 by decide)]
        exact ⟨rfl, by decide, rfl⟩
/-- The parts, by the place that the loop counts from. -/
def kidsG (T : List Tok) (p : PS → Fm × PS) (a : Nat) : Nat → PS × List Fm → PS × List Fm
  | 0, x => x
  | m + 1, x => kidsG T p (a + 1) m (kidS T p a x)
theorem kidsG_snoc {T : List Tok} {p : PS → Fm × PS} : ∀ (m a : Nat) (x : PS × List Fm), kidsG T p a (m + 1) x = kidS T p (a + m) (kidsG T p a m x)
  | 0, _, _ => rfl
  | m + 1, a, x => by rw [kidsG, kidsG_snoc m (a + 1), kidsG, show a + 1 + m = a + (m + 1) by omega]
theorem kidsG_eq {T : List Tok} {p : PS → Fm × PS} : ∀ (m : Nat) (x : PS × List Fm), kidsG T p 0 m x = kidsS T p m x
  | 0, _ => rfl
  | m + 1, x => by rw [kidsG_snoc, kidsS, kidsG_eq m x, Nat.zero_add]
theorem kidsG_bad {T : List Tok} {p : PS → Fm × PS} (hp : ∀ s : PS, s.e ≠ 0 → (p s).2.e = s.e ∧ (p s).2.i = s.i) : ∀ (m a : Nat) (x : PS × List Fm), x.1.e ≠ 0 → (kidsG T p a m x).1.e = x.1.e ∧ (kidsG T p a m x).1.i = x.1.i
  | 0, _, _, _ => ⟨rfl, rfl⟩
  | m + 1, a, x, h => by
    rw [kidsG]
    have h1 : (kidS T p a x).1.e = x.1.e ∧ (kidS T p a x).1.i = x.1.i := by
      unfold kidS
      simp only [needS_bad h]
      exact hp x.1 h
    have h2 := kidsG_bad (T := T) hp m (a + 1) (kidS T p a x) (by rw [h1.1]; exact h)
    exact ⟨h2.1.trans h1.1, h2.2.trans h1.2⟩
def Agk (T : List Tok) (l : List Fm) (r : Rs (List Fm × List Tok × Nat)) (o : PS × List Fm) : Prop :=
  match r with
  | .ok (r, L, c) => o.2 = l ++ r ∧ T.drop o.1.i = L ∧ o.1.e = 0 ∧ o.1.c = c
  | .bad er pl => o.1.e = er ∧ er ≠ 0 ∧ (tkP T o.1.i).place = pl
theorem kidsG_ok {T : List Tok} {p : PS → Fm × PS} {q : Nat → List Tok → Rs (Fm × List Tok × Nat)} (hp : ∀ s : PS, s.e ≠ 0 → (p s).2.e = s.e ∧ (p s).2.i = s.i) (hq : ∀ s : PS, s.e = 0 → Agr T (q s.c (T.drop s.i)) (p s)) :
    ∀ (m a : Nat) (x : PS × List Fm), x.1.e = 0 → Agk T x.2 (kidsL q m (sgnJ a) x.1.c (T.drop x.1.i)) (kidsG T p a m x)
  | 0, a, x, he => by
    rw [kidsL, kidsG]
    exact ⟨by simp, rfl, he, rfl⟩
  | m + 1, a, x, he => by
    rw [kidsL, kidsG]
    have h1 := needS_ok (T := T) (w := sgnJ a) he
    have hcc := needS_c (T := T) (w := sgnJ a) (s := x.1)
    generalize hn : kidS T p a x = y
    unfold kidS at hn
    simp only at hn
    generalize needS T (sgnJ a) x.1 = s1 at *
    cases hpp : needP (sgnJ a) (T.drop x.1.i) with
    | bad er pl =>
      rw [hpp] at h1
      obtain ⟨g1, g2, g3⟩ := h1
      have hs1 : s1.e ≠ 0 := by rw [g1]; exact g2
      obtain ⟨p1, p2⟩ := hp s1 hs1
      have hy : y.1.e = s1.e ∧ y.1.i = s1.i := by subst hn; exact ⟨p1, p2⟩
      obtain ⟨k1, k2⟩ := kidsG_bad (T := T) hp m (a + 1) y (by rw [hy.1]; exact hs1)
      exact ⟨by rw [k1, hy.1, g1], g2, by rw [k2, hy.2]; exact g3⟩
    | ok L1 =>
      rw [hpp] at h1
      obtain ⟨g1, g2⟩ := h1
      subst g1
      have hq1 := hq s1 g2
      rw [hcc] at hq1
      simp only
      cases hr : q x.1.c (T.drop s1.i) with
      | bad er pl =>
        rw [hr] at hq1
        obtain ⟨f1, f2, f3⟩ := hq1
        have hy : y.1.e = er ∧ y.1.i = (p s1).2.i := by subst hn; exact ⟨f1, rfl⟩
        obtain ⟨k1, k2⟩ := kidsG_bad (T := T) hp m (a + 1) y (by rw [hy.1]; exact f2)
        exact ⟨by rw [k1, hy.1], f2, by rw [k2, hy.2]; exact f3⟩
      | ok z =>
        obtain ⟨f, L2, c2⟩ := z
        rw [hr] at hq1
        obtain ⟨f1, f2, f3, f4⟩ := hq1
        have hy : y.1.e = 0 ∧ T.drop y.1.i = L2 ∧ y.1.c = c2 ∧ y.2 = x.2 ++ [f] := by subst hn; exact ⟨f4, f2, f3, by simp only [f1]⟩
        obtain ⟨y1, y2, y3, y4⟩ := hy
        have ih := kidsG_ok (T := T) hp hq m (a + 1) y y1
        rw [show sgnJ (a + 1) = [44] from rfl, y2, y3, y4] at ih
        simp only
        cases hr2 : kidsL q m [44] c2 L2 with
        | bad er pl => rw [hr2] at ih; exact ih
        | ok z =>
          obtain ⟨r, L3, c3⟩ := z
          rw [hr2] at ih
          obtain ⟨i1, i2, i3, i4⟩ := ih
          exact ⟨by rw [i1]; simp, i2, i3, i4⟩
theorem fmS_ok {T : List Tok} : ∀ (d : Nat) (s : PS), s.e = 0 → Agr T (parL d s.c (T.drop s.i)) (fmS T d s)
  | 0, s, he => by
    rw [parL, fmS]
    have h : (headS T 0 s).e = 2 := by
      unfold headS failS
      simp only [true_or, if_true]
      rw [if_pos he]
      simp only
      split
      · rw [if_neg (show ¬ (2 : Int) = 0 by decide)]
      · rfl
    exact ⟨h, by decide, by rw [headS_i.1]; rfl⟩
  | d + 1, s, he => by
    rw [parL, fmS]
    simp only
    have hh := headS_i (T := T) (d := d + 1) (s := s)
    by_cases hc : 200 ≤ s.c
    · rw [if_pos hc]
      have h : (headS T (d + 1) s).e = 2 := by
        unfold headS failS
        simp only
        rw [if_pos (show d + 1 = 0 ∨ 200 < s.c + 1 by omega), if_pos he]
        simp only
        split
        · rw [if_neg (show ¬ (2 : Int) = 0 by decide)]
        · rfl
      rw [if_pos (by rw [h]; decide)]
      exact ⟨h, by decide, by rw [hh.1]; rfl⟩
    · rw [if_neg hc]
      have hs1 : ∀ z : PS, (if d + 1 = 0 ∨ 200 < s.c + 1 then failS 2 z else z) = z := fun z => if_neg (by omega)
      cases hk : shpW (hdT (T.drop s.i)).text with
      | some k =>
        have hkp : kdP (tkP T s.i).text = k := by unfold kdP tkP; rw [hk]; rfl
        have hk0 : 0 < k := by have := (shpW_some hk).1; unfold isShp at this; omega
        have hhe : headS T (d + 1) s = ⟨s.i, s.c + 1, s.e⟩ := by
          unfold headS
          simp only
          rw [if_neg (show ¬ (kdF (tkP T s.i).text = 0 ∧ kdP (tkP T s.i).text = 0) by rw [hkp]; omega), hs1]
        rw [hhe, if_neg (show ¬ ({ i := s.i, c := s.c + 1, e := s.e } : PS).e ≠ 0 from fun h => h he), hkp, if_pos hk0]
        unfold atomS
        simp only
        rw [← numsG_eq]
        have h1 := numsG_ok (T := T) (offs k).length 0 (nextS ⟨s.i, s.c + 1, s.e⟩, []) he
        have htl : (T.drop s.i).tail = T.drop (s.i + 1) := by simp
        rw [htl]
        have h1 : Agm T [] (s.c + 1) (numsL (offs k).length [40] (T.drop (s.i + 1))) (numsG T 0 (offs k).length (nextS ⟨s.i, s.c + 1, s.e⟩, [])) := h1
        generalize numsG T 0 (offs k).length (nextS ⟨s.i, s.c + 1, s.e⟩, []) = x at *
        cases hr : numsL (offs k).length [40] (T.drop (s.i + 1)) with
        | bad er pl =>
          rw [hr] at h1
          obtain ⟨g1, g2, g3⟩ := h1
          have hb : x.1.e ≠ 0 := by rw [g1]; exact g2
          rw [shutS_bad hb, if_pos hb]
          exact ⟨g1, g2, g3⟩
        | ok z =>
          obtain ⟨r, L1⟩ := z
          rw [hr] at h1
          obtain ⟨g1, g2, g3, g4⟩ := h1
          subst g2
          simp only [List.nil_append] at g1
          have h2 := shutS_ok (T := T) (m := (offs k).length) g3
          have h2c := shutS_c (T := T) (m := (offs k).length) (s := x.1)
          simp only
          generalize shutS T (offs k).length x.1 = s2 at *
          cases hr2 : shutP (offs k).length (T.drop x.1.i) with
          | bad er pl =>
            rw [hr2] at h2
            obtain ⟨f1, f2, f3⟩ := h2
            rw [if_pos (by rw [f1]; exact f2)]
            exact ⟨f1, f2, f3⟩
          | ok L2 =>
            rw [hr2] at h2
            obtain ⟨f1, f2⟩ := h2
            rw [if_neg (fun h => h f2)]
            exact ⟨by rw [g1], f1, by rw [h2c, g4], f2⟩
      | none =>
        have hkp : kdP (tkP T s.i).text = 0 := by unfold kdP tkP; rw [hk]; rfl
        cases hf : frmW (hdT (T.drop s.i)).text with
        | none =>
          have hkf : kdF (tkP T s.i).text = 0 := by unfold kdF tkP; rw [hf]; rfl
          have hhe : headS T (d + 1) s = ⟨s.i, s.c + 1, 21⟩ := by
            unfold headS
            simp only
            rw [if_pos (And.intro hkf hkp), hs1]
            unfold failS
            rw [if_pos he]
          rw [hhe, if_pos (show (21 : Int) ≠ 0 by decide)]
          exact ⟨rfl, by decide, rfl⟩
        | some k =>
          have hkf : kdF (tkP T s.i).text = k := by unfold kdF tkP; rw [hf]; rfl
          have hk0 : k ≠ 0 := by have := (frmW_some hf).1; unfold isFrm at this; omega
          have hhe : headS T (d + 1) s = ⟨s.i, s.c + 1, s.e⟩ := by
            unfold headS
            simp only
            rw [if_neg (show ¬ (kdF (tkP T s.i).text = 0 ∧ kdP (tkP T s.i).text = 0) from fun h => hk0 (hkf.symm.trans h.1)), hs1]
          rw [hhe, if_neg (show ¬ ({ i := s.i, c := s.c + 1, e := s.e } : PS).e ≠ 0 from fun h => h he), hkp, if_neg (show ¬ (0 : Int) < 0 by decide), hkf]
          simp only
          rw [← kidsG_eq]
          have h1 := kidsG_ok (T := T) (p := fmS T d) (q := parL d) (fun s h => by rw [fmS_bad h]; exact ⟨rfl, rfl⟩) (fun s h => fmS_ok d s h) (frmK k) 0 (nextS ⟨s.i, s.c + 1, s.e⟩, []) he
          have htl : (T.drop s.i).tail = T.drop (s.i + 1) := by simp
          rw [htl]
          have h1 : Agk T [] (kidsL (parL d) (frmK k) [40] (s.c + 1) (T.drop (s.i + 1))) (kidsG T (fmS T d) 0 (frmK k) (nextS ⟨s.i, s.c + 1, s.e⟩, [])) := h1
          generalize kidsG T (fmS T d) 0 (frmK k) (nextS ⟨s.i, s.c + 1, s.e⟩, []) = x at *
          cases hr : kidsL (parL d) (frmK k) [40] (s.c + 1) (T.drop (s.i + 1)) with
          | bad er pl =>
            rw [hr] at h1
            obtain ⟨g1, g2, g3⟩ := h1
            have hb : x.1.e ≠ 0 := by rw [g1]; exact g2
            rw [shutS_bad hb]
            exact ⟨g1, g2, g3⟩
          | ok z =>
            obtain ⟨r, L1, c1⟩ := z
            rw [hr] at h1
            obtain ⟨g1, g2, g3, g4⟩ := h1
            subst g2
            simp only [List.nil_append] at g1
            have h2 := shutS_ok (T := T) (m := frmK k) g3
            have h2c := shutS_c (T := T) (m := frmK k) (s := x.1)
            simp only
            generalize shutS T (frmK k) x.1 = s2 at *
            cases hr2 : shutP (frmK k) (T.drop x.1.i) with
            | bad er pl =>
              rw [hr2] at h2
              exact h2
            | ok L2 =>
              rw [hr2] at h2
              obtain ⟨f1, f2⟩ := h2
              exact ⟨by rw [g1], f1, by rw [h2c, g4], f2⟩
end Go.Proofs.YtogopcejapklgaaGreatDoor
namespace Go.Proofs.YtogopcejapklgaaGreatDoor

theorem Ends.drop {T : List Tok} (hE : Ends T) {i : Nat} (hi : i < T.length) : Ends (T.drop i) := by
  obtain ⟨M, e, rfl, h0, h1⟩ := hE
  rw [List.length_append, List.length_singleton] at hi
  refine ⟨M.drop i, e, ?_, h0, h1⟩
  rw [List.drop_append_of_le_length (by omega)]
theorem Tn.drop {T : List Tok} (hT : Tn T) (i : Nat) : Tn (T.drop i) := fun t ht => hT t (List.mem_of_mem_drop ht)
/-- All the numbers have been taken, and may be. -/
theorem numsS_full {T : List Tok} (hE : Ends T) (hT : Tn T) {m : Nat} {s : PS} (hi : s.i < T.length) (he : s.e = 0) (h : (numsS T m (s, [])).1.e = 0) : (numsS T m (s, [])).2.length = m ∧ ∀ x ∈ (numsS T m (s, [])).2, 0 ≤ x ∧ x ≤ 999999 := by
  rw [← numsG_eq] at h ⊢
  have h1 := numsG_ok (T := T) m 0 (s, []) he
  have h2 := numsL_spec m [40] (T.drop s.i) (hE.drop hi) (hT.drop s.i)
  generalize numsG T 0 m (s, []) = x at *
  have h1 : Agm T [] s.c (numsL m [40] (T.drop s.i)) x := h1
  cases hr : numsL m [40] (T.drop s.i) with
  | bad er pl =>
    rw [hr] at h1
    exact absurd (h1.1.symm.trans h) h1.2.1
  | ok z =>
    obtain ⟨r, L⟩ := z
    rw [hr] at h1
    obtain ⟨g1, -, -, -⟩ := h1
    rw [List.nil_append] at g1
    obtain ⟨-, k1, k2⟩ := h2.1 r L hr
    rw [g1]
    exact ⟨k1, k2⟩
/-- The whole parser: what it answers. -/
def docS (T : List Tok) : Fm × PS :=
  let o := fmS T 20 ⟨0, 0, 0⟩
  (o.1, if (tkP T o.2.i).kind ≠ 0 then failS 21 o.2 else o.2)
def docR (T : List Tok) : Fm × Int × Int := if (docS T).2.e ≠ 0 then (zeroF, (docS T).2.e, (tkP T (docS T).2.i).place) else ((docS T).1, 0, 0)
theorem docR_eq (T : List Tok) : docR T = match parT T with | .ok f => (f, 0, 0) | .bad e i => (zeroF, e, i) := by
  have h := fmS_ok (T := T) 20 ⟨0, 0, 0⟩ rfl
  unfold docR docS parT
  simp only [List.drop_zero] at h ⊢
  generalize fmS T 20 ⟨0, 0, 0⟩ = o at *
  cases hr : parL 20 0 T with
  | bad er pl =>
    rw [hr] at h
    obtain ⟨h1, h2, h3⟩ := h
    have hb : o.2.e ≠ 0 := by rw [h1]; exact h2
    have hs : (if (tkP T o.2.i).kind ≠ 0 then failS 21 o.2 else o.2) = o.2 := by
      split
      · exact failS_bad hb
      · rfl
    simp only [hs]
    rw [if_pos hb, h1, h3]
  | ok z =>
    obtain ⟨f, L, c⟩ := z
    rw [hr] at h
    obtain ⟨h1, h2, h3, h4⟩ := h
    simp only
    have ht : tkP T o.2.i = hdT L := by unfold tkP; rw [h2]
    rw [ht]
    by_cases hk : (hdT L).kind = 0
    · rw [if_pos hk]
      have : ¬ (hdT L).kind ≠ 0 := fun h => h hk
      rw [if_neg this, if_neg (fun h => h h4), h1]
    · rw [if_neg hk]
      have h5 : (if (hdT L).kind ≠ 0 then failS 21 o.2 else o.2) = ⟨o.2.i, o.2.c, 21⟩ := by
        rw [if_pos hk]
        unfold failS
        rw [if_pos h4]
      rw [h5, if_pos (show (21 : Int) ≠ 0 by decide), ht]
/-- Where no atom stands, a formula's word stands. -/
theorem head_frm {T : List Tok} {d : Nat} {s : PS} (h : (headS T d s).e = 0) (hp : ¬ 0 < kdP (tkP T s.i).text) : isFrm (kdF (tkP T s.i).text) := by
  have h0 : kdP (tkP T s.i).text = 0 := by
    unfold kdP at hp ⊢
    cases hk : shpW (tkP T s.i).text with
    | none => rfl
    | some k =>
      rw [hk] at hp
      have := (shpW_some hk).1
      unfold isShp at this
      simp only [Option.getD_some] at hp
      omega
  cases hf : frmW (tkP T s.i).text with
  | none =>
    exfalso
    have h1 : kdF (tkP T s.i).text = 0 ∧ kdP (tkP T s.i).text = 0 := ⟨by unfold kdF; rw [hf]; rfl, h0⟩
    unfold headS at h
    simp only [h1, and_self, if_true] at h
    unfold failS at h
    simp only at h
    repeat' split at h
    all_goals simp_all
  | some k =>
    unfold kdF
    rw [hf]
    exact (frmW_some hf).1
/-- An atom's word stands. -/
theorem kdP_shp {S : List UInt8} (hp : 0 < kdP S) : isShp (kdP S) := by
  unfold kdP at hp ⊢
  cases hk : shpW S with
  | none => rw [hk] at hp; simp at hp
  | some k => exact (shpW_some hk).1
end Go.Proofs.YtogopcejapklgaaGreatDoor
