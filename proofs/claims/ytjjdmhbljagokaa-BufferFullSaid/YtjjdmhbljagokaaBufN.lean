/- What the program's Heads gives is what the document's gives. No program in sight. -/
import Derived.Test.YtjjdmhbljagokaaBufL
namespace Go.Proofs.Ytjjdmhbljagokaa

def ins2 (v : Int) : List Int → List Int
  | [] => [v]
  | y :: o => if v < y then v :: y :: o else y :: ins2 v o
theorem ins_fold_t (v : Int) : ∀ (o x : List Int), o.foldl (insStep v) (x, true) = (x ++ o, true)
  | [], x => by simp
  | y :: o, x => by
    have := ins_fold_t v o (x ++ [y])
    simp only [List.foldl_cons, insStep, Bool.not_true, Bool.false_and, Bool.false_eq_true, if_false]
    simpa using this
theorem ins_fold (v : Int) : ∀ (o x : List Int), (if (o.foldl (insStep v) (x, false)).2 then (o.foldl (insStep v) (x, false)).1 else (o.foldl (insStep v) (x, false)).1 ++ [v]) = x ++ ins2 v o
  | [], x => by simp [ins2]
  | y :: o, x => by
    by_cases h : v < y
    · have e : (y :: o).foldl (insStep v) (x, false) = (x ++ [v] ++ [y] ++ o, true) := by
        rw [List.foldl_cons, show insStep v (x, false) y = (x ++ [v] ++ [y], true) by simp [insStep, h]]
        exact ins_fold_t v o _
      rw [e]
      simp [ins2, h]
    · have e : (y :: o).foldl (insStep v) (x, false) = o.foldl (insStep v) (x ++ [y], false) := by
        rw [List.foldl_cons, show insStep v (x, false) y = (x ++ [y], false) by simp [insStep, h]]
      rw [e, ins_fold v o (x ++ [y])]
      simp [ins2, h]
theorem insL_eq (v : Int) (o : List Int) : insL v o = ins2 v o := by
  have := ins_fold v o []
  simpa [insL] using this
theorem mem_ins2 (v a : Int) : ∀ o : List Int, a ∈ ins2 v o ↔ a = v ∨ a ∈ o
  | [] => by simp [ins2]
  | y :: o => by
    unfold ins2
    split
    · simp
    · rw [List.mem_cons, mem_ins2 v a o, List.mem_cons]
      constructor
      · rintro (h | h | h) <;> simp [h]
      · rintro (h | h | h) <;> simp [h]
theorem ins2_sorted (v : Int) : ∀ o : List Int, o.Pairwise (· < ·) → v ∉ o → (ins2 v o).Pairwise (· < ·)
  | [], _, _ => by simp [ins2]
  | y :: o, h, hv => by
    obtain ⟨h1, h2⟩ := List.pairwise_cons.1 h
    unfold ins2
    split
    · rename_i hlt
      refine List.pairwise_cons.2 ⟨fun a ha => ?_, h⟩
      rcases List.mem_cons.1 ha with rfl | ha
      · exact hlt
      · exact Int.lt_trans hlt (h1 a ha)
    · rename_i hlt
      have hne : v ≠ y := fun e => hv (by simp [e])
      refine List.pairwise_cons.2 ⟨fun a ha => ?_, ins2_sorted v o h2 (fun hm => hv (List.mem_cons_of_mem _ hm))⟩
      rcases (mem_ins2 v a o).1 ha with rfl | ha
      · omega
      · exact h1 a ha
theorem hdL_spec (l : List (Int × Int)) : (hdL l).Pairwise (· < ·) ∧ ∀ a, a ∈ hdL l ↔ a ∈ l.map (·.1) := by
  have key : ∀ l' : List (Int × Int), (hdL l'.reverse).Pairwise (· < ·) ∧ ∀ a, a ∈ hdL l'.reverse ↔ a ∈ l'.reverse.map (·.1) := by
    intro l'
    induction l' with
    | nil => simp [hdL]
    | cons y l' ih =>
      obtain ⟨h1, h2⟩ := ih
      rw [List.reverse_cons, hdL_snoc]
      split
      · rename_i hm
        refine ⟨h1, fun a => ?_⟩
        rw [h2 a, List.map_append, List.mem_append]
        constructor
        · exact .inl
        · rintro (h | h)
          · exact h
          · simp at h; subst h; exact hm
      · rename_i hm
        rw [insL_eq]
        refine ⟨ins2_sorted _ _ h1 (fun h => hm ((h2 _).1 h)), fun a => ?_⟩
        rw [mem_ins2, h2 a, List.map_append, List.mem_append]
        simp [or_comm]
  have := key l.reverse
  simpa using this
theorem sorted_ext : ∀ a b : List Int, a.Pairwise (· < ·) → b.Pairwise (· < ·) → (∀ x, x ∈ a ↔ x ∈ b) → a = b
  | [], [], _, _, _ => rfl
  | [], y :: b, _, _, h => by simpa using h y
  | x :: a, [], _, _, h => by simpa using h x
  | x :: a, y :: b, ha, hb, h => by
    obtain ⟨a1, a2⟩ := List.pairwise_cons.1 ha
    obtain ⟨b1, b2⟩ := List.pairwise_cons.1 hb
    have hx : x ∈ y :: b := (h x).1 (by simp)
    have hy : y ∈ x :: a := (h y).2 (by simp)
    have e : x = y := by
      rcases List.mem_cons.1 hx with e | hx
      · exact e
      · rcases List.mem_cons.1 hy with e | hy
        · exact e.symm
        · have := a1 y hy; have := b1 x hx; omega
    subst e
    congr 1
    refine sorted_ext a b a2 b2 fun z => ⟨fun hz => ?_, fun hz => ?_⟩
    · rcases List.mem_cons.1 ((h z).1 (List.mem_cons_of_mem _ hz)) with e | h'
      · have := a1 z hz; omega
      · exact h'
    · rcases List.mem_cons.1 ((h z).2 (List.mem_cons_of_mem _ hz)) with e | h'
      · have := b1 z hz; omega
      · exact h'
theorem compactUpTo_spec (d : Array Int) (hs : ∀ i j, i ≤ j → j < d.size → d[i]! ≤ d[j]!) : ∀ m, m ≤ d.size → (Lib.compactUpTo d m).Pairwise (· < ·) ∧ ∀ a, a ∈ Lib.compactUpTo d m ↔ ∃ j, j < m ∧ d[j]! = a
  | 0, _ => by simp [Lib.compactUpTo]
  | m + 1, hm => by
    obtain ⟨h1, h2⟩ := compactUpTo_spec d hs m (by omega)
    rw [Lib.compactUpTo_succ]
    by_cases hk : Lib.keeps d m = true
    · rw [if_pos hk]
      have hk' : m = 0 ∨ d[m]! ≠ d[m - 1]! := by simpa [Lib.keeps] using hk
      refine ⟨List.pairwise_append.2 ⟨h1, by simp, fun a ha b hb => ?_⟩, fun a => ?_⟩
      · obtain ⟨j, hj, rfl⟩ := (h2 a).1 ha
        have hb : b = d[m]! := by simpa using hb
        subst hb
        have q1 := hs j (m - 1) (by omega) (by omega)
        have q2 := hs (m - 1) m (by omega) (by omega)
        rcases hk' with h | h
        · omega
        · omega
      · rw [List.mem_append, h2 a]
        constructor
        · rintro (⟨j, hj, e⟩ | h)
          · exact ⟨j, by omega, e⟩
          · have h : a = d[m]! := by simpa using h
            exact ⟨m, by omega, h.symm⟩
        · rintro ⟨j, hj, e⟩
          rcases Nat.lt_succ_iff_lt_or_eq.1 hj with h | rfl
          · exact .inl ⟨j, h, e⟩
          · right; simp [e]
    · rw [if_neg hk, List.append_nil]
      have hk' : m ≠ 0 ∧ d[m]! = d[m - 1]! := by simpa [Lib.keeps] using hk
      refine ⟨h1, fun a => ?_⟩
      rw [h2 a]
      constructor
      · rintro ⟨j, hj, e⟩; exact ⟨j, by omega, e⟩
      · rintro ⟨j, hj, e⟩
        rcases Nat.lt_succ_iff_lt_or_eq.1 hj with h | rfl
        · exact ⟨j, h, e⟩
        · exact ⟨j - 1, by omega, by rw [← hk'.2]; exact e⟩
theorem compact_spec (zs : List Int) (hs : zs.Pairwise (· ≤ ·)) : (Lib.compact zs).Pairwise (· < ·) ∧ ∀ a, a ∈ Lib.compact zs ↔ a ∈ zs := by
  have hss : ∀ i j, i ≤ j → j < zs.toArray.size → zs.toArray[i]! ≤ zs.toArray[j]! := by
    intro i j hij hj
    have hj' : j < zs.length := by simpa using hj
    rw [getElem!_pos _ i (by simpa using (by omega : i < zs.length)), getElem!_pos _ j hj]
    rcases Nat.lt_or_eq_of_le hij with h | rfl
    · have := List.pairwise_iff_getElem.1 hs i j (by omega) hj' h
      simpa using this
    · exact Int.le_refl _
  obtain ⟨h1, h2⟩ := compactUpTo_spec zs.toArray hss zs.length (by simp)
  refine ⟨h1, fun a => (h2 a).trans ?_⟩
  rw [List.mem_iff_getElem]
  constructor
  · rintro ⟨j, hj, e⟩
    rw [getElem!_pos _ j (by simpa using hj)] at e
    exact ⟨j, hj, by simpa using e⟩
  · rintro ⟨j, hj, e⟩
    refine ⟨j, hj, ?_⟩
    rw [getElem!_pos _ j (by simpa using hj)]
    simpa using e
theorem heads_eq (m : Int) (l : List (Int × Int)) : headsL m l = refHeadsL m l := by
  unfold headsL refHeadsL
  by_cases h1 : m = 1
  · subst h1
    simp
  · rw [if_neg h1, if_neg h1]
    by_cases h2 : m = 2
    · rw [if_pos h2, if_pos h2]
      have hs : ((l.map (·.1)).mergeSort fun x y => decide (x ≤ y)).Pairwise (· ≤ ·) := by
        have := List.pairwise_mergeSort (le := fun x y : Int => decide (x ≤ y)) (fun a b c h1 h2 => by simp at *; omega) (fun a b => by simp; omega) (l.map (·.1))
        simpa using this
      obtain ⟨a1, a2⟩ := compact_spec _ hs
      obtain ⟨b1, b2⟩ := hdL_spec l
      refine sorted_ext _ _ a1 b1 fun x => ?_
      rw [a2, b2, List.mem_mergeSort]
    · rw [if_neg h2, if_neg h2]
end Go.Proofs.Ytjjdmhbljagokaa
