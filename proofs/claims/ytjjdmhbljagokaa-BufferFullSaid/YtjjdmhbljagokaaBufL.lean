/- The document's Heads. -/
import Derived.Test.YtjjdmhbljagokaaBufK
namespace Go.Proofs.Ytjjdmhbljagokaa
open Go.RowKit Go.Sort

/-- One number passed while another is put into its place. -/
def insStep (v : Int) (s : List Int × Bool) (y : Int) : List Int × Bool :=
  if !s.2 && decide (v < y) then (s.1 ++ [v] ++ [y], true) else (s.1 ++ [y], s.2)
def insL (v : Int) (o : List Int) : List Int :=
  if (o.foldl (insStep v) ([], false)).2 then (o.foldl (insStep v) ([], false)).1 else (o.foldl (insStep v) ([], false)).1 ++ [v]
/-- One store passed by Heads. -/
def hdStep (s : List Int × List Int) (y : Int × Int) : List Int × List Int := (s.1 ++ [y.1], if y.1 ∈ s.1 then s.2 else insL y.1 s.2)
def hdL (l : List (Int × Int)) : List Int := (l.foldl hdStep ([], [])).2
theorem hd_fst (l : List (Int × Int)) : ∀ s, (l.foldl hdStep s).1 = s.1 ++ l.map (·.1) := by
  induction l with
  | nil => intro s; simp
  | cons y l ih => intro s; rw [List.foldl_cons, ih]; simp [hdStep]
theorem hdL_snoc (l : List (Int × Int)) (y : Int × Int) : hdL (l ++ [y]) = if y.1 ∈ l.map (·.1) then hdL l else insL y.1 (hdL l) := by
  unfold hdL
  rw [List.foldl_append]
  simp only [List.foldl_cons, List.foldl_nil, hdStep, hd_fst, List.nil_append]
def insP (s : List Int × Bool) : Nat := s.1.length + if s.2 then 0 else 1
theorem insP_step (v : Int) (s : List Int × Bool) (y : Int) : insP (insStep v s y) = insP s + 1 := by
  obtain ⟨x, d⟩ := s
  unfold insStep insP
  cases d
  · by_cases hv : v < y
    · simp [hv]
    · simp [hv]
  · simp
theorem insP_fold (v : Int) (o : List Int) : ∀ s : List Int × Bool, insP (o.foldl (insStep v) s) = insP s + o.length := by
  induction o with
  | nil => intro s; rfl
  | cons y o ih => intro s; rw [List.foldl_cons, ih, insP_step, List.length_cons]; omega
theorem insL_len (v : Int) (o : List Int) : (insL v o).length = o.length + 1 := by
  have h := insP_fold v o ([], false)
  unfold insP at h
  unfold insL
  cases hd : (o.foldl (insStep v) ([], false)).2 <;> simp [hd] at h ⊢ <;> omega
theorem hdL_len (l : List (Int × Int)) : (hdL l).length ≤ l.length := by
  have key : ∀ l' : List (Int × Int), (hdL l'.reverse).length ≤ l'.reverse.length := by
    intro l'
    induction l' with
    | nil => simp [hdL]
    | cons y l' ih =>
      rw [List.reverse_cons, hdL_snoc]
      split
      · simp only [List.length_append]; omega
      · have := insL_len y.1 (hdL l'.reverse)
        simp only [List.length_append, List.length_cons, List.length_nil]; omega
  have := key l.reverse
  simpa using this
/-- Heads by the document. -/
def refHeadsL (m : Int) (l : List (Int × Int)) : List Int :=
  if m = 2 then hdL l else if m = 1 then (l.map (·.1)).take 1 else []

end Go.Proofs.Ytjjdmhbljagokaa
