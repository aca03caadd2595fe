/- Plain laws for tokens joined, and for two texts: what the stage's theorems lean on. -/
import Derived.Test.YteomcjfnghbikaaDoorLexS
namespace Go.Proofs.YteomcjfnghbikaaDoor

/-- Where an error lies. -/
theorem lexF_err : ∀ (f : Nat) (l : List UInt8) (i j : Nat), (lexF f l i).2 = some j → i ≤ j ∧ j < i + l.length
  | 0, _, _, _, h => by simp [lexF] at h
  | f + 1, l, i, j, h => by
    simp only [lexF] at h
    have hb := runP_le blankB l
    split at h
    · cases h
    · rename_i c m hm
      have hl := congrArg List.length hm
      simp at hl
      split at h
      · cases h
        omega
      · rename_i k n v hk
        have h1 := headT_len hk
        have := lexF_err f _ _ _ h
        simp at this h1
        omega

/-- Each token's text stands at its place. -/
theorem lexF_text (S : List UInt8) : ∀ (f : Nat) (l : List UInt8) (i : Nat), l = S.drop i → i ≤ S.length → ∀ t ∈ (lexF f l i).1, t.place + t.text.length ≤ S.length ∧ t.text = (S.drop t.place).take t.text.length
  | 0, _, _, _, _, t, ht => by simp [lexF] at ht
  | f + 1, l, i, hl, hi, t, ht => by
    have hb := runP_le blankB l
    have hll : l.length = S.length - i := by rw [hl]; simp
    simp only [lexF] at ht
    split at ht
    · simp at ht
      subst ht
      exact ⟨by simp; omega, by simp⟩
    · rename_i c m hm
      have hcm : c :: m = S.drop (i + runP blankB l) := by rw [← hm, hl, List.drop_drop]
      have hlen := congrArg List.length hm
      simp at hlen
      split at ht
      · simp at ht
      · rename_i k n v hk
        have h1 := headT_len hk
        simp only [List.mem_cons] at ht
        rcases ht with rfl | ht
        · have htl : ((c :: m).take n).length = n := by rw [List.length_take]; omega
          simp at h1
          refine ⟨by show i + runP blankB l + ((c :: m).take n).length ≤ S.length; rw [htl]; omega, ?_⟩
          show (c :: m).take n = (S.drop (i + runP blankB l)).take ((c :: m).take n).length
          rw [htl, hcm]
        · simp at h1
          refine lexF_text S f _ _ ?_ (by omega) t ht
          rw [hcm, List.drop_drop]

theorem joinB_len : ∀ (f : Nat) (l : List UInt8) (i : Nat), (joinB (lexF f l i).1).length ≤ 2 * l.length + 1
  | 0, _, _ => by simp [lexF, joinB]
  | f + 1, l, i => by
    have hb := runP_le blankB l
    simp only [lexF]
    split
    · simp [joinB]
    · rename_i c m hm
      have hlen := congrArg List.length hm
      simp at hlen
      split
      · simp [joinB]
      · rename_i k n v hk
        have h1 := headT_len hk
        have ih := joinB_len f ((c :: m).drop n) (i + runP blankB l + n)
        have htl : ((c :: m).take n).length = n := by rw [List.length_take]; omega
        rw [joinB_cons]
        simp only [List.length_cons, List.length_append, htl]
        simp only [List.length_drop, List.length_cons] at ih h1
        omega

/-- What a text's tokens give: an error within it, or tokens that stand there and are read again. -/
def Reads (S : List UInt8) (ts : List Tok) (us : List Tok) : Prop :=
  lexR S = (ts, 0, 0) ∧ (∀ t ∈ ts, t.place + t.text.length ≤ S.length ∧ t.text = (S.drop t.place).take t.text.length) ∧
  lexR (joinB ts) = (us, 0, 0) ∧ us.length = ts.length ∧ ts.length ≤ 601 ∧ (joinB ts).length ≤ 2001 ∧ ∀ k (h : k < us.length) (h' : k < ts.length), alike us[k] ts[k]

theorem lexR_cases (S : List UInt8) (h : S.length ≤ 600) : (∃ j, j < S.length ∧ lexR S = ([], 20, (j : Int))) ∨ ∃ ts us, Reads S ts us := by
  have hn : ¬ 10000 < S.length := by omega
  cases hx : (lexA S 0).2 with
  | some j =>
    left
    have := lexF_err _ _ _ _ (show (lexF (S.length + 1) (S.drop 0) 0).2 = some j from hx)
    refine ⟨j, by simpa using this.2, ?_⟩
    unfold lexR
    rw [if_neg hn, hx]
  | none =>
    right
    have hr : lexR S = ((lexA S 0).1, 0, 0) := by unfold lexR; rw [if_neg hn, hx]
    obtain ⟨ts, e, h1, h2, h3, h4, h5, _⟩ := lexF_good (S.length + 1) (S.drop 0) 0 hx (by simp)
    have h1' : (lexA S 0).1 = ts ++ [e] := h1
    have hj := joinB_len (S.length + 1) (S.drop 0) 0
    rw [h1] at hj
    simp only [List.drop_zero] at hj
    have hl := lexF_len (S.length + 1) (S.drop 0) 0
    rw [h1] at hl
    simp only [List.drop_zero] at hl
    obtain ⟨us, k1, k2, k3⟩ := lexF_join e ⟨h3, h4, h5⟩ ts ((joinB (ts ++ [e])).length + 1) 0 h2 (by omega)
    have hj2 : lexR (joinB (ts ++ [e])) = (us, 0, 0) := by
      unfold lexR
      rw [if_neg (by omega)]
      have : lexA (joinB (ts ++ [e])) 0 = (us, none) := k1
      rw [this]
    refine ⟨ts ++ [e], us, by rw [hr, h1'], ?_, hj2, k2, by omega, by omega, k3⟩
    have := lexF_text S (S.length + 1) (S.drop 0) 0 rfl (by omega)
    rw [h1] at this
    exact this
end Go.Proofs.YteomcjfnghbikaaDoor
