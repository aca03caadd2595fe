/- The tokens of two texts with a blank between. -/
import Derived.Test.YteomcjfnghbikaaDoorLexW
namespace Go.Proofs.YteomcjfnghbikaaDoor

/-- What the tokens of two texts, and of both with a blank between, are to each other. -/
def Parts (ra rb rc : List Tok × Int × Int) : Prop :=
  ((ra.2.1 = 20 ∨ (ra.2.1 = 0 ∧ rb.2.1 = 20)) ∧ rc.2.1 = 20) ∨
  (ra.2.1 = 0 ∧ rb.2.1 = 0 ∧ rc.2.1 = 0 ∧ 1 ≤ ra.1.length ∧ rc.1.length + 1 = ra.1.length + rb.1.length ∧
    (∀ i (h : i < rc.1.length) (h' : i + 1 < ra.1.length), rc.1[i].kind = ra.1[i].kind ∧ rc.1[i].text = ra.1[i].text) ∧
    (∀ i k (h : i < rc.1.length) (h' : k < rb.1.length), i + 1 = ra.1.length + k → rc.1[i].kind = rb.1[k].kind ∧ rc.1[i].text = rb.1[k].text))

theorem lexR_none {S : List UInt8} (h : S.length ≤ 10000) (hx : (lexA S 0).2 = none) : lexR S = ((lexA S 0).1, 0, 0) := by
  unfold lexR; rw [if_neg (by omega), hx]
theorem lexR_some {S : List UInt8} (h : S.length ≤ 10000) {j : Nat} (hx : (lexA S 0).2 = some j) : lexR S = ([], 20, (j : Int)) := by
  unfold lexR; rw [if_neg (by omega), hx]

theorem parts_of (S T : List UInt8) (hS : S.length ≤ 200) (hT : T.length ≤ 200) : Parts (lexR S) (lexR T) (lexR (S ++ 32 :: T)) := by
  have hST : (S ++ 32 :: T).length ≤ 10000 := by simp; omega
  obtain ⟨p1, p2⟩ := lexF_parts T (S.length + 1) S 0 ((S ++ 32 :: T).length + 1) (by omega) (by omega)
  have eS : lexA S 0 = lexF (S.length + 1) S 0 := rfl
  have eT : lexA T 0 = lexF (T.length + 1) T 0 := rfl
  have eST : lexA (S ++ 32 :: T) 0 = lexF ((S ++ 32 :: T).length + 1) (S ++ 32 :: T) 0 := rfl
  rw [← eS, ← eST] at p1 p2
  have hsh := lexF_shift ((S ++ 32 :: T).length + 1) T (0 + S.length + 1) 0
  have hfu : lexF ((S ++ 32 :: T).length + 1) T 0 = lexA T 0 := by rw [eT]; exact lexF_fuel _ _ _ _ (by simp; omega) (by omega)
  rw [hfu] at hsh
  cases hs : (lexA S 0).2 with
  | some j =>
    rw [lexR_some (by omega) hs, lexR_some hST (p1 j hs)]
    exact .inl ⟨.inl rfl, rfl⟩
  | none =>
    have hp := p2 hs
    rw [lexR_none (by omega) hs]
    cases ht : (lexA T 0).2 with
    | some j =>
      rw [ht] at hsh
      obtain ⟨j2, hj2⟩ : ∃ j2, (lexF ((S ++ 32 :: T).length + 1) T (0 + S.length + 1)).2 = some j2 := Option.isSome_iff_exists.1 (by rw [hsh.2]; rfl)
      have hst : (lexA (S ++ 32 :: T) 0).2 = some j2 := by rw [hp]; exact hj2
      rw [lexR_some (by omega) ht, lexR_some hST hst]
      exact .inl ⟨.inr ⟨rfl, rfl⟩, rfl⟩
    | none =>
      rw [ht] at hsh
      have hj2 : (lexF ((S ++ 32 :: T).length + 1) T (0 + S.length + 1)).2 = none := by
        have := hsh.2
        simpa using this
      have hst : (lexA (S ++ 32 :: T) 0).2 = none := by rw [hp]; exact hj2
      rw [lexR_none (by omega) ht, lexR_none hST hst]
      obtain ⟨ts, e, h1, _⟩ := lexF_good (S.length + 1) S 0 hs (by omega)
      rw [← eS] at h1
      have hkeys := hsh.1
      have hcs : (lexA (S ++ 32 :: T) 0).1 = (lexA S 0).1.dropLast ++ (lexF ((S ++ 32 :: T).length + 1) T (0 + S.length + 1)).1 := by rw [hp]
      rw [hcs]
      generalize (lexF ((S ++ 32 :: T).length + 1) T (0 + S.length + 1)).1 = ds at hkeys
      generalize (lexA T 0).1 = bs at hkeys
      rw [h1, List.dropLast_concat]
      have hlen : ds.length = bs.length := by simpa using congrArg List.length hkeys
      refine .inr ⟨rfl, rfl, rfl, by simp, by simp; omega, fun i h h' => ?_, fun i k h h' hik => ?_⟩
      · have hi : i < ts.length := by simpa using h'
        simp only
        rw [List.getElem_append_left hi, List.getElem_append_left hi]
        exact ⟨rfl, rfl⟩
      · have hi : ts.length ≤ i := by simp at hik; omega
        have hk : i - ts.length = k := by simp at hik; omega
        simp only
        rw [List.getElem_append_right hi]
        have hk2 : k < ds.length := by rw [hlen]; exact h'
        have he : key ds[k] = key bs[k] := by
          have := congrArg (fun l => l[k]?) hkeys
          simp only [List.getElem?_map, List.getElem?_eq_getElem hk2, List.getElem?_eq_getElem h', Option.map_some, Option.some.injEq] at this
          exact this
        have he2 : ds[i - ts.length]'(by omega) = ds[k] := by congr 1
        rw [he2]
        simp only [key, Prod.mk.injEq] at he
        exact ⟨he.1, he.2.1⟩
end Go.Proofs.YteomcjfnghbikaaDoor
