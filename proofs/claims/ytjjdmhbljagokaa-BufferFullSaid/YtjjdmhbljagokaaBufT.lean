/- BufferOrder: the law on lists. No program in sight. -/
import Derived.Test.YtjjdmhbljagokaaBufR
namespace Go.Proofs.Ytjjdmhbljagokaa

theorem takeL_mid {v : Int} {e : Int × Int} {A D : List (Int × Int)} (hA : ∀ y ∈ A, y.1 ≠ v) (he : e.1 = v) : takeL v (A ++ e :: D) = (e, A ++ D, true) := by
  have hk : A.length < (A ++ e :: D).length := by simp
  have hg : (A ++ e :: D)[A.length] = e := by simp
  rw [takeL_hit hk (by rw [hg]; exact he) (fun j hj hlt => by
    rw [List.getElem_append_left hlt]
    exact hA _ (List.getElem_mem hlt)), hg]
  congr 2
  rw [List.take_left', List.drop_append]
  · simp
  · rfl
theorem takeL_none' {v : Int} {l : List (Int × Int)} (h : ∀ y ∈ l, y.1 ≠ v) : takeL v l = ((0, 0), l, false) := takeL_none fun j hj => h _ (List.getElem_mem hj)

/-- What is left when the stores to the variables below v, and of v those ahead of place i, have been taken. -/
def restL (x : List (Int × Int)) (v : Int) (i : Nat) : List (Int × Int) := (x.take i).filter (fun y => decide (v < y.1)) ++ (x.drop i).filter (fun y => decide (v ≤ y.1))
theorem restL_start (x : List (Int × Int)) (h : ∀ y ∈ x, 0 ≤ y.1) : restL x 0 0 = x := by
  unfold restL
  rw [List.take_zero, List.drop_zero, List.filter_nil, List.nil_append, List.filter_eq_self]
  intro y hy
  simpa using h y hy
theorem restL_step (x : List (Int × Int)) (v : Int) (i : Nat) (hi : i < x.length) (hv : x[i].1 ≠ v) : restL x v (i + 1) = restL x v i := by
  have hd : x.drop i = x[i] :: x.drop (i + 1) := (List.getElem_cons_drop hi).symm
  unfold restL
  rw [hd, List.take_succ_eq_append_getElem hi, List.filter_append, List.append_assoc]
  congr 1
  generalize x.drop (i + 1) = D
  by_cases h : v < x[i].1
  · have h2 : v ≤ x[i].1 := Int.le_of_lt h
    simp [h, h2]
  · have h2 : ¬ v ≤ x[i].1 := by omega
    simp [h, h2]
theorem restL_hit (x : List (Int × Int)) (v : Int) (i : Nat) (hi : i < x.length) (hv : x[i].1 = v) : takeL v (restL x v i) = (x[i], restL x v (i + 1), true) := by
  have e : restL x v i = (x.take i).filter (fun y => decide (v < y.1)) ++ x[i] :: (x.drop (i + 1)).filter (fun y => decide (v ≤ y.1)) := by
    unfold restL
    rw [← List.getElem_cons_drop hi, List.filter_cons_of_pos (by simp [hv])]
  rw [e, takeL_mid _ hv]
  · congr 2
    unfold restL
    rw [List.take_succ_eq_append_getElem hi, List.filter_append]
    simp [hv]
  · intro y hy
    have := (List.mem_filter.1 hy).2
    simp at this
    omega
theorem restL_len (x : List (Int × Int)) (v : Int) (i : Nat) (hi : i < x.length) (hv : x[i].1 = v) : (restL x v i).length = (restL x v (i + 1)).length + 1 := by
  have e : restL x v i = (x.take i).filter (fun y => decide (v < y.1)) ++ x[i] :: (x.drop (i + 1)).filter (fun y => decide (v ≤ y.1)) := by
    unfold restL
    rw [← List.getElem_cons_drop hi, List.filter_cons_of_pos (by simp [hv])]
  have e2 : restL x v (i + 1) = (x.take i).filter (fun y => decide (v < y.1)) ++ (x.drop (i + 1)).filter (fun y => decide (v ≤ y.1)) := by
    unfold restL
    rw [List.take_succ_eq_append_getElem hi, List.filter_append]
    simp [hv]
  rw [e, e2]
  simp only [List.length_append, List.length_cons]
  omega
theorem restL_end (x : List (Int × Int)) (v : Int) : takeL v (restL x v x.length) = ((0, 0), restL x v x.length, false) := by
  refine takeL_none' fun y hy => ?_
  unfold restL at hy
  rw [List.take_length, List.drop_length, List.filter_nil, List.append_nil] at hy
  have := (List.mem_filter.1 hy).2
  simp at this
  omega
theorem restL_next (x : List (Int × Int)) (v : Int) : restL x (v + 1) 0 = restL x v x.length := by
  unfold restL
  rw [List.take_zero, List.drop_zero, List.filter_nil, List.nil_append, List.take_length, List.drop_length, List.filter_nil, List.append_nil]
  congr 1
theorem restL_done (x : List (Int × Int)) (h : ∀ y ∈ x, y.1 < 3) : restL x 3 0 = [] := by
  unfold restL
  rw [List.take_zero, List.drop_zero, List.filter_nil, List.nil_append, List.filter_eq_nil_iff]
  intro y hy
  have := h y hy
  simp
  omega
theorem restL_le (x : List (Int × Int)) (v : Int) (i : Nat) : (restL x v i).length ≤ x.length := by
  unfold restL
  rw [List.length_append]
  have h1 := List.length_filter_le (fun y : Int × Int => decide (v < y.1)) (x.take i)
  have h2 := List.length_filter_le (fun y : Int × Int => decide (v ≤ y.1)) (x.drop i)
  rw [List.length_take] at h1
  rw [List.length_drop] at h2
  omega
theorem madeL_len (cs : List Nat) : (madeL cs).length ≤ 12 := by unfold madeL; rw [List.length_map, List.length_take]; omega
theorem madeL_var (cs : List Nat) : ∀ y ∈ madeL cs, 0 ≤ y.1 ∧ y.1 < 3 := by
  intro y hy
  obtain ⟨c, _, rfl⟩ := List.mem_map.1 hy
  simp only [mkE]
  omega
theorem put_ok (m : Int) (hm : m = 1 ∨ m = 2) (x : List (Int × Int)) (hx : x.length ≤ 12) (k : Nat) (hk : k < x.length) : putL m 12 x[k] (x.take k) = (x.take (k + 1), true) := by
  have h1 := cnt_le m x[k].1 (x.take k)
  rw [List.length_take] at h1
  unfold putL
  rw [if_neg (by omega), List.take_succ_eq_append_getElem hk]
theorem look_ok (x : List (Int × Int)) (k : Nat) (hk : k < x.length) : lookL x[k].1 (x.take (k + 1)) = (x[k].2, true) := by
  rw [lookL_take _ _ _ hk, if_pos rfl]
end Go.Proofs.Ytjjdmhbljagokaa
