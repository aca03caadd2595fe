/- What statements are compiled to: that it may be, how many instructions it has, and where they lead. -/
import Derived.Test.YtekmcoflagajkaaGreatDoorBunP
import Derived.Test.YtekmcoflagajkaaGreatDoorFwd
namespace Go.Proofs.YtekmcoflagajkaaGreatDoor
open Go.RowKit

/-- How many instructions a statement has to have. -/
def manyS : St → Nat
  | .mk k _ _ _ _ t e => 1 + (t.attach.map fun x => manyS x.1).sum + (e.attach.map fun x => manyS x.1).sum + (if k = 11 ∨ e.length ≠ 0 then 1 else 0)
termination_by x => SizeOf.sizeOf x
decreasing_by
  all_goals
    have := List.sizeOf_lt_of_mem x.2
    simp only [St.mk.sizeOf_spec]; omega
def manyL (l : List St) : Nat := (l.map manyS).sum
theorem manyS_mk (k r v : Int) (a b : Ex) (t e : List St) : manyS (.mk k r v a b t e) = 1 + manyL t + manyL e + (if k = 11 ∨ e.length ≠ 0 then 1 else 0) := by
  rw [manyS, List.attach_map_val (f := manyS), List.attach_map_val (f := manyS)]
  rfl
/-- Is one of them a loop? -/
def loopS : St → Bool
  | .mk k _ _ _ _ t e => (t.attach.map fun x => loopS x.1).any id || (e.attach.map fun x => loopS x.1).any id || k == 11
termination_by x => SizeOf.sizeOf x
decreasing_by
  all_goals
    have := List.sizeOf_lt_of_mem x.2
    simp only [St.mk.sizeOf_spec]; omega
def loopL (l : List St) : Bool := (l.map loopS).any id
theorem loopS_mk (k r v : Int) (a b : Ex) (t e : List St) : loopS (.mk k r v a b t e) = (loopL t || loopL e || k == 11) := by
  rw [loopS, List.attach_map_val (f := loopS), List.attach_map_val (f := loopS)]
  rfl
theorem loopL_cons (x : St) (l : List St) : loopL (x :: l) = (loopS x || loopL l) := rfl
theorem manyL_cons (x : St) (l : List St) : manyL (x :: l) = manyS x + manyL l := by simp [manyL]

theorem cmpL_foldl (l : List St) : ∀ (acc : List Ins) (a : Nat), l.foldl (fun acc x => acc ++ cmpS x (a + acc.length)) acc = acc ++ cmpL l (a + acc.length) := by
  induction l with
  | nil => intro acc a; simp [cmpL]
  | cons x l ih =>
    intro acc a
    unfold cmpL
    rw [List.foldl_cons, List.foldl_cons, ih, ih]
    simp [Nat.add_assoc]
theorem cmpL_cons (x : St) (l : List St) (a : Nat) : cmpL (x :: l) a = cmpS x a ++ cmpL l (a + (cmpS x a).length) := by
  unfold cmpL
  rw [List.foldl_cons, cmpL_foldl]
  simp [cmpL]

section
variable {k r v : Int} {xa xb : Ex} {t e : List St}
theorem cmpS_a (a : Nat) (h : k = 10) (h0 : e.length = 0) : cmpS (.mk k r v xa xb t e) a = brI xa (a + 1 + (cmpL t (a + 1)).length) :: cmpL t (a + 1) := (cmpS_eq _ _).trans (cmpF_a (x := .mk k r v xa xb t e) _ _ _ h h0)
theorem cmpS_b (a : Nat) (h : k = 10) (h0 : e.length ≠ 0) : cmpS (.mk k r v xa xb t e) a = brI xa (a + 2 + (cmpL t (a + 1)).length) :: cmpL t (a + 1) ++ juI (a + 2 + (cmpL t (a + 1)).length + (cmpL e (a + 2 + (cmpL t (a + 1)).length)).length) :: cmpL e (a + 2 + (cmpL t (a + 1)).length) := (cmpS_eq _ _).trans (cmpF_b (x := .mk k r v xa xb t e) _ _ _ h h0)
theorem cmpS_w (a : Nat) (h : k = 11) : cmpS (.mk k r v xa xb t e) a = brI xa (a + 2 + (cmpL t (a + 1)).length) :: cmpL t (a + 1) ++ [juI a] := (cmpS_eq _ _).trans (cmpF_w (x := .mk k r v xa xb t e) _ _ _ h)
theorem cmpS_o (a : Nat) (h : k ≠ 10) (h1 : k ≠ 11) : cmpS (.mk k r v xa xb t e) a = [⟨k, r, v, xa, xb, 0⟩] := (cmpS_eq _ _).trans (cmpF_o (x := .mk k r v xa xb t e) _ _ _ h h1)
end

/-- Where the instructions lead. -/
def GoodI (l : List Ins) (a hi : Nat) : Prop := ∀ j x, l[j]? = some x →
  (x.op = 12 → ((a + j : Nat) : Int) < x.to ∧ x.to ≤ (hi : Int)) ∧
  (x.op = 13 → (((a + j : Nat) : Int) < x.to ∧ x.to ≤ (hi : Int)) ∨ ∃ i y, i < j ∧ l[i]? = some y ∧ x.to = ((a + i : Nat) : Int) ∧ y.op = 12 ∧ y.to = ((a + j + 1 : Nat) : Int)) ∧
  (x.op ≠ 12 → x.op ≠ 13 → x.to = 0)
namespace GoodI
theorem nil_ {a hi : Nat} : GoodI [] a hi := fun j x h => by simp at h
theorem mono {l : List Ins} {a hi hi' : Nat} (h : GoodI l a hi) (hh : hi ≤ hi') : GoodI l a hi' := fun j x hx => by
  obtain ⟨h1, h2, h3⟩ := h j x hx
  refine ⟨fun e => ⟨(h1 e).1, by have := (h1 e).2; omega⟩, fun e => ?_, h3⟩
  rcases h2 e with h | h
  · exact .inl ⟨h.1, by omega⟩
  · exact .inr h
theorem app {l m : List Ins} {a hi : Nat} (hl : GoodI l a hi) (hm : GoodI m (a + l.length) hi) : GoodI (l ++ m) a hi := fun j x hx => by
  by_cases hj : j < l.length
  · rw [List.getElem?_append_left hj] at hx
    obtain ⟨h1, h2, h3⟩ := hl j x hx
    refine ⟨h1, fun e => ?_, h3⟩
    rcases h2 e with h | ⟨i, y, hi, hy, h⟩
    · exact .inl h
    · exact .inr ⟨i, y, hi, by rw [List.getElem?_append_left (by omega)]; exact hy, h⟩
  · obtain ⟨j', rfl⟩ : ∃ j', j = l.length + j' := ⟨j - l.length, by omega⟩
    rw [List.getElem?_append_right (by omega), Nat.add_sub_cancel_left] at hx
    obtain ⟨h1, h2, h3⟩ := hm j' x hx
    have e1 : a + l.length + j' = a + (l.length + j') := by omega
    rw [e1] at h1 h2
    refine ⟨h1, fun e => ?_, h3⟩
    rcases h2 e with h | ⟨i, y, hi, hy, h4, h5⟩
    · exact .inl h
    · exact .inr ⟨l.length + i, y, by omega, by rw [List.getElem?_append_right (by omega), Nat.add_sub_cancel_left]; exact hy, by rw [h4, Nat.add_assoc], h5⟩
theorem one {x : Ins} {a hi : Nat} (h1 : x.op = 12 ∨ x.op = 13 → ((a : Nat) : Int) < x.to ∧ x.to ≤ (hi : Int)) (h3 : x.op ≠ 12 → x.op ≠ 13 → x.to = 0) : GoodI [x] a hi := fun j y hy => by
  rcases j with _ | j
  · simp at hy
    subst hy
    exact ⟨fun e => h1 (.inl e), fun e => .inl (h1 (.inr e)), h3⟩
  · simp at hy
theorem back {l : List Ins} {y : Ins} {a hi : Nat} (h : GoodI l a hi) (h0 : l[0]? = some y) (ho : y.op = 12) (ht : y.to = ((a + l.length + 1 : Nat) : Int)) : GoodI (l ++ [juI a]) a hi := fun j x hx => by
  by_cases hj : j < l.length
  · rw [List.getElem?_append_left hj] at hx
    obtain ⟨h1, h2, h3⟩ := h j x hx
    refine ⟨h1, fun e => ?_, h3⟩
    rcases h2 e with h | ⟨i, y, hi, hy, h⟩
    · exact .inl h
    · exact .inr ⟨i, y, hi, by rw [List.getElem?_append_left (by omega)]; exact hy, h⟩
  · obtain ⟨j', rfl⟩ : ∃ j', j = l.length + j' := ⟨j - l.length, by omega⟩
    rw [List.getElem?_append_right (by omega), Nat.add_sub_cancel_left] at hx
    rcases j' with _ | j'
    · simp at hx
      subst hx
      have hp : 0 < l.length := by
        rcases l with _ | _
        · simp at h0
        · simp
      refine ⟨fun e => absurd e (by show (13 : Int) ≠ 12; decide), fun _ => .inr ⟨0, y, by omega, by rw [List.getElem?_append_left hp]; exact h0, by simp [juI], ho, by rw [ht]; simp⟩, fun _ e => absurd rfl e⟩
    · simp at hx
end GoodI

theorem h4_off {k : Int} (h1 : k ≠ 10) (h2 : k ≠ 11) : h4 k = false := by simp [h4, h1, h2]
theorem h5_off {k : Int} (h1 : k ≠ 10) : h5 k = false := by simp [h5, h1]
/-- A statement that may be, opened. -/
theorem ok_open {vars dom : Int} {n : Nat} {k r v : Int} {a b : Ex} {t e : List St} (h : okS vars dom n (.mk k r v a b t e) = true) :
    ∃ m, n = m + 1 ∧ 1 ≤ k ∧ k ≤ 11 ∧ partL k r v a b vars dom = true ∧ (k ≠ 10 → k ≠ 11 → t = []) ∧ (k ≠ 10 → e = []) ∧ (∀ x ∈ t, okS vars dom m x = true) ∧ (∀ x ∈ e, okS vars dom m x = true) := by
  rcases n with _ | m
  · simp [okS] at h
  · rw [okS_succ, okF_mk] at h
    simp only [Bool.and_eq_true, decide_eq_true_eq, Bool.or_eq_true, List.isEmpty_iff] at h
    obtain ⟨⟨⟨⟨⟨⟨h1, h2⟩, h3⟩, h4⟩, h5⟩, h6⟩, h7⟩ := h
    unfold okL at h6 h7
    simp only [List.all_eq_true] at h6 h7
    refine ⟨m, rfl, h1, h2, h3, fun e1 e2 => ?_, fun e1 => ?_, h6, h7⟩
    · rcases h4 with h | h
      · rw [h4_off e1 e2] at h; cases h
      · exact h
    · rcases h5 with h | h
      · rw [h5_off e1] at h; cases h
      · exact h

theorem cmpL_many_of {l : List St} (h : ∀ x ∈ l, ∀ a, (cmpS x a).length = manyS x) : ∀ a, (cmpL l a).length = manyL l := by
  induction l with
  | nil => intro a; rfl
  | cons x l ih =>
    intro a
    rw [cmpL_cons, List.length_append, manyL_cons, h x (by simp), ih (fun y hy => h y (by simp [hy]))]
theorem cmpS_many {vars dom : Int} (x : St) : ∀ n, okS vars dom n x = true → ∀ a, (cmpS x a).length = manyS x := by
  induction x using St.ind with
  | h k r v xa xb t e iht ihe =>
    intro n h a
    obtain ⟨m, rfl, -, -, -, h4, h5, h6, h7⟩ := ok_open h
    have ht := cmpL_many_of fun x hx => iht x hx m (h6 x hx)
    have he := cmpL_many_of fun x hx => ihe x hx m (h7 x hx)
    rw [manyS_mk]
    by_cases h10 : k = 10
    · by_cases h0 : e.length = 0
      · rw [cmpS_a _ h10 h0, List.length_cons]
        have : manyL e = 0 := by rw [List.eq_nil_of_length_eq_zero h0]; rfl
        have := ht (a + 1)
        rw [if_neg (by omega)]
        omega
      · rw [cmpS_b _ h10 h0]
        have h1 := ht (a + 1)
        have h2 := he (a + 2 + (cmpL t (a + 1)).length)
        simp only [List.cons_append, List.length_cons, List.length_append]
        rw [if_pos (.inr h0)]
        omega
    · have he0 := h5 h10
      by_cases h11 : k = 11
      · rw [cmpS_w _ h11]
        have h1 := ht (a + 1)
        have : manyL e = 0 := by rw [he0]; rfl
        simp only [List.cons_append, List.length_cons, List.length_append, List.length_nil]
        rw [if_pos (.inl h11)]
        omega
      · rw [cmpS_o _ h10 h11, h4 h10 h11, he0, if_neg (by simp [h11])]
        rfl
theorem cmpL_many {vars dom : Int} {n : Nat} {l : List St} (h : okL vars dom n l = true) (a : Nat) : (cmpL l a).length = manyL l :=
  cmpL_many_of (fun x hx => cmpS_many x n (by unfold okL at h; exact List.all_eq_true.1 h x hx)) a

theorem cmpL_good_of {l : List St} (h : ∀ x ∈ l, ∀ a, GoodI (cmpS x a) a (a + (cmpS x a).length)) : ∀ a, GoodI (cmpL l a) a (a + (cmpL l a).length) := by
  induction l with
  | nil => intro a; exact GoodI.nil_
  | cons x l ih =>
    intro a
    rw [cmpL_cons, List.length_append]
    refine ((h x (by simp) a).mono (by omega)).app ?_
    exact (ih (fun y hy => h y (by simp [hy])) _).mono (by omega)
theorem cmpS_good {vars dom : Int} (x : St) : ∀ n, okS vars dom n x = true → ∀ a, GoodI (cmpS x a) a (a + (cmpS x a).length) := by
  induction x using St.ind with
  | h k r v xa xb t e iht ihe =>
    intro n h a
    obtain ⟨m, rfl, -, -, -, h4, h5, h6, h7⟩ := ok_open h
    have ht := cmpL_good_of fun x hx => iht x hx m (h6 x hx)
    have he := cmpL_good_of fun x hx => ihe x hx m (h7 x hx)
    by_cases h10 : k = 10
    · by_cases h0 : e.length = 0
      · rw [cmpS_a _ h10 h0]
        show GoodI ([_] ++ _) _ _
        refine GoodI.app (GoodI.one (fun _ => ?_) fun e1 => absurd rfl e1) ?_
        · simp only [brI, List.length_cons]; omega
        · exact (ht (a + 1)).mono (by simp; omega)
      · rw [cmpS_b _ h10 h0]
        have h1 := ht (a + 1)
        have h2 := he (a + 2 + (cmpL t (a + 1)).length)
        generalize cmpL e (a + 2 + (cmpL t (a + 1)).length) = Y at *
        generalize cmpL t (a + 1) = X at *
        show GoodI ([_] ++ X ++ ([_] ++ Y)) _ _
        refine GoodI.app (GoodI.app (GoodI.one (fun _ => ?_) fun e1 => absurd rfl e1) ?_) (GoodI.app (GoodI.one (fun _ => ?_) fun _ e1 => absurd rfl e1) ?_)
        · simp only [brI, List.length_append, List.length_cons, List.cons_append]; omega
        · exact h1.mono (by simp; omega)
        · simp only [juI, List.length_append, List.length_cons, List.cons_append, List.nil_append]; omega
        · have e2 : a + ([brI xa (a + 2 + X.length)] ++ X).length + [juI (a + 2 + X.length + Y.length)].length = a + 2 + X.length := by simp; omega
          rw [e2]
          exact h2.mono (by simp; omega)
    · by_cases h11 : k = 11
      · rw [cmpS_w _ h11]
        have h1 := ht (a + 1)
        generalize cmpL t (a + 1) = X at *
        refine GoodI.back (y := brI xa (a + 2 + X.length)) ?_ rfl rfl (by simp only [brI, List.length_cons]; omega)
        show GoodI ([_] ++ X) _ _
        refine GoodI.app (GoodI.one (fun _ => ?_) fun e1 => absurd rfl e1) ?_
        · simp only [brI, List.length_append, List.length_cons, List.length_nil, List.cons_append]; omega
        · exact h1.mono (by simp; omega)
      · rw [cmpS_o _ h10 h11]
        refine GoodI.one (fun e1 => ?_) fun _ _ => rfl
        have h12 : k ≤ 11 := by
          rw [okS_succ, okF_mk] at h
          simp only [Bool.and_eq_true, decide_eq_true_eq] at h
          omega
        simp only at e1
        omega
theorem cmpL_good {vars dom : Int} {n : Nat} {l : List St} (h : okL vars dom n l = true) (a : Nat) : GoodI (cmpL l a) a (a + (cmpL l a).length) :=
  cmpL_good_of (fun x hx => cmpS_good x n (by unfold okL at h; exact List.all_eq_true.1 h x hx)) a

/-- May an instruction be, but for where it leads? -/
def PartI (vars dom : Int) (x : Ins) : Prop := 1 ≤ insK x.op ∧ insK x.op ≤ 9 ∧ partL (insK x.op) x.reg x.v x.a x.b vars dom = true
theorem cmpL_part_of {vars dom : Int} {l : List St} (h : ∀ x ∈ l, ∀ a, ∀ i ∈ cmpS x a, PartI vars dom i) : ∀ a, ∀ i ∈ cmpL l a, PartI vars dom i := by
  induction l with
  | nil => intro a i hi; simp [cmpL] at hi
  | cons x l ih =>
    intro a i hi
    rw [cmpL_cons] at hi
    rcases List.mem_append.1 hi with hi | hi
    · exact h x (by simp) a i hi
    · exact ih (fun y hy => h y (by simp [hy])) _ i hi
theorem ju_part (vars dom : Int) (dst : Nat) : PartI vars dom (juI dst) := by
  refine ⟨by simp [juI, insK], by simp [juI, insK], ?_⟩
  simp [partL, juI, insK, numL, oneL, h0, h1, h2, h3, Ex.none, exZ]
theorem br_part {vars dom : Int} {k r v : Int} {a b : Ex} (hk : k = 10 ∨ k = 11) (h : partL k r v a b vars dom = true) (dst : Nat) : PartI vars dom (brI a dst) := by
  refine ⟨by simp [brI, insK], by simp [brI, insK], ?_⟩
  unfold partL at h
  simp only [Bool.and_eq_true] at h
  have ha := h.1.2
  unfold oneL at ha
  have h2k : h2 k = true := by rcases hk with rfl | rfl <;> rfl
  rw [h2k] at ha
  have ha : a.fit dom 20 = true := ha
  simp [partL, brI, insK, numL, oneL, h0, h1, h2, h3, Ex.none, exZ, ha]
theorem cmpS_part {vars dom : Int} (x : St) : ∀ n, okS vars dom n x = true → ∀ a, ∀ i ∈ cmpS x a, PartI vars dom i := by
  induction x using St.ind with
  | h k r v xa xb t e iht ihe =>
    intro n h a i hi
    obtain ⟨m, rfl, hk1, hk2, hp, h4, h5, h6, h7⟩ := ok_open h
    have ht := cmpL_part_of fun x hx => iht x hx m (h6 x hx)
    have he := cmpL_part_of fun x hx => ihe x hx m (h7 x hx)
    by_cases h10 : k = 10
    · by_cases h0 : e.length = 0
      · rw [cmpS_a _ h10 h0] at hi
        rcases List.mem_cons.1 hi with rfl | hi
        · exact br_part (.inl h10) hp _
        · exact ht _ i hi
      · rw [cmpS_b _ h10 h0] at hi
        rcases List.mem_append.1 hi with hi | hi
        · rcases List.mem_cons.1 hi with rfl | hi
          · exact br_part (.inl h10) hp _
          · exact ht _ i hi
        · rcases List.mem_cons.1 hi with rfl | hi
          · exact ju_part _ _ _
          · exact he _ i hi
    · by_cases h11 : k = 11
      · rw [cmpS_w _ h11] at hi
        rcases List.mem_append.1 hi with hi | hi
        · rcases List.mem_cons.1 hi with rfl | hi
          · exact br_part (.inr h11) hp _
          · exact ht _ i hi
        · rcases List.mem_singleton.1 hi with rfl
          exact ju_part _ _ _
      · rw [cmpS_o _ h10 h11] at hi
        rcases List.mem_singleton.1 hi with rfl
        have hK : insK k = k := by unfold insK; rw [if_neg (by omega), if_neg (by omega)]
        show 1 ≤ insK k ∧ insK k ≤ 9 ∧ partL (insK k) r v xa xb vars dom = true
        rw [hK]
        exact ⟨hk1, by omega, hp⟩
theorem cmpL_part {vars dom : Int} {n : Nat} {l : List St} (h : okL vars dom n l = true) (a : Nat) : ∀ i ∈ cmpL l a, PartI vars dom i :=
  cmpL_part_of (fun x hx => cmpS_part x n (by unfold okL at h; exact List.all_eq_true.1 h x hx)) a

/-- What is compiled may be. -/
theorem rowL_cmp {vars dom : Int} {n : Nat} {l : List St} (h : okL vars dom n l = true) (hc : cntL l ≤ 200) : rowL vars dom (cmpL l 0) = true := by
  unfold rowL
  have hlen := cmpL_len l 0
  simp only [Bool.and_eq_true, decide_eq_true_eq, List.all_eq_true]
  refine ⟨by omega, fun x hx => ?_⟩
  obtain ⟨p1, p2, p3⟩ := cmpL_part h 0 x hx
  obtain ⟨j, hj⟩ := List.getElem?_of_mem hx
  have hjl : j < (cmpL l 0).length := by
    rcases Nat.lt_or_ge j (cmpL l 0).length with h | h
    · exact h
    · rw [List.getElem?_eq_none h] at hj; cases hj
  obtain ⟨g1, g2, g3⟩ := cmpL_good h 0 j x hj
  unfold insL
  rw [p3]
  have hto : 0 ≤ x.to ∧ x.to ≤ insT x.op (cmpL l 0).length := by
    unfold insT
    by_cases h12 : x.op = 12
    · rw [if_pos (.inl h12)]
      have := g1 h12
      omega
    · by_cases h13 : x.op = 13
      · rw [if_pos (.inr h13)]
        rcases g2 h13 with h | ⟨i, y, hi, -, h4, -⟩
        · omega
        · omega
      · rw [if_neg (by omega), g3 h12 h13]
        omega
  simp [p1, p2, hto]
theorem rightL_cmp {p : Pg} (h : rightP p = true) : rightL p.vars.length p.dom (cmpT p.ths) = true := by
  have hc := (rightP_cnt h).2
  unfold rightP at h
  simp only [Bool.and_eq_true, decide_eq_true_eq] at h
  obtain ⟨⟨⟨⟨⟨⟨⟨⟨a1, a2⟩, -⟩, -⟩, a3⟩, a4⟩, a5⟩, a6⟩, a7⟩ := h
  unfold sumT okT at a7
  simp only [Bool.and_eq_true, List.all_eq_true] at a7
  unfold rightL cmpT
  simp only [Bool.and_eq_true, decide_eq_true_eq, List.length_map, List.all_eq_true, List.mem_map]
  refine ⟨⟨⟨⟨⟨⟨by omega, by omega⟩, a3⟩, a4⟩, a5⟩, a6⟩, ?_⟩
  rintro _ ⟨l, hl, rfl⟩
  obtain ⟨i, hi, rfl⟩ := List.mem_iff_getElem.1 hl
  exact rowL_cmp (a7.1 _ hl) (hc i hi)

/-- Does one of a row, that begins at a, lead back? -/
def bk : List Ins → Nat → Bool
  | [], _ => false
  | x :: l, a => backI x a || bk l (a + 1)
theorem bk_app (l m : List Ins) : ∀ a, bk (l ++ m) a = (bk l a || bk m (a + l.length)) := by
  induction l with
  | nil => intro a; simp [bk]
  | cons x l ih => intro a; simp [bk, ih, Bool.or_assoc, Nat.add_assoc, Nat.add_comm 1]
theorem cmpL_bk_of {l : List St} (h : ∀ x ∈ l, ∀ a, bk (cmpS x a) a = loopS x) : ∀ a, bk (cmpL l a) a = loopL l := by
  induction l with
  | nil => intro a; rfl
  | cons x l ih =>
    intro a
    rw [cmpL_cons, bk_app, loopL_cons, h x (by simp), ih (fun y hy => h y (by simp [hy]))]
theorem back_br (x : Ex) (dst a : Nat) (h : a < dst) : backI (brI x dst) a = false := by
  have : decide (((dst : Nat) : Int) ≤ ((a : Nat) : Int)) = false := decide_eq_false (by omega)
  unfold backI brI
  simp only [decide_eq_false_iff_not] at this
  simp [this]
theorem back_ju (dst a : Nat) (h : a < dst) : backI (juI dst) a = false := by
  have : decide (((dst : Nat) : Int) ≤ ((a : Nat) : Int)) = false := decide_eq_false (by omega)
  unfold backI juI
  simp only [decide_eq_false_iff_not] at this
  simp [this]
theorem back_ju2 (dst a : Nat) (h : dst ≤ a) : backI (juI dst) a = true := by
  have : decide (((dst : Nat) : Int) ≤ ((a : Nat) : Int)) = true := decide_eq_true (by omega)
  unfold backI juI
  simp only [decide_eq_true_eq] at this
  simp [this]
theorem cmpS_bk {vars dom : Int} (x : St) : ∀ n, okS vars dom n x = true → ∀ a, bk (cmpS x a) a = loopS x := by
  induction x using St.ind with
  | h k r v xa xb t e iht ihe =>
    intro n h a
    obtain ⟨m, rfl, hk1, hk2, -, h4, h5, h6, h7⟩ := ok_open h
    have ht := cmpL_bk_of fun x hx => iht x hx m (h6 x hx)
    have he := cmpL_bk_of fun x hx => ihe x hx m (h7 x hx)
    rw [loopS_mk]
    by_cases h10 : k = 10
    · have h11 : (k == 11) = false := by subst h10; rfl
      rw [h11, Bool.or_false]
      by_cases h0 : e.length = 0
      · rw [cmpS_a _ h10 h0]
        simp only [bk]
        rw [back_br _ _ _ (by omega), ht, List.eq_nil_of_length_eq_zero h0]
        simp [loopL]
      · rw [cmpS_b _ h10 h0]
        have h1 := ht (a + 1)
        have h2 := he (a + 2 + (cmpL t (a + 1)).length)
        generalize cmpL e (a + 2 + (cmpL t (a + 1)).length) = Y at *
        generalize cmpL t (a + 1) = X at *
        rw [bk_app]
        simp only [bk]
        rw [back_br _ _ _ (by omega), h1, back_ju _ _ (by simp; omega), Bool.false_or, Bool.false_or]
        have e2 : a + (brI xa (a + 2 + X.length) :: X).length + 1 = a + 2 + X.length := by simp; omega
        rw [e2, h2]
    · by_cases h11 : k = 11
      · rw [cmpS_w _ h11, bk_app]
        simp only [bk]
        rw [back_ju2 _ _ (by simp)]
        simp [h11]
      · rw [cmpS_o _ h10 h11, h4 h10 h11, h5 h10]
        have e1 : (k == 11) = false := by simpa using h11
        have e2 : (k == 12) = false := by simp; omega
        have e3 : (k == 13) = false := by simp; omega
        simp only [bk, backI, e1, e2, e3, loopL]
        rfl
theorem cmpL_bk {vars dom : Int} {n : Nat} {l : List St} (h : okL vars dom n l = true) (a : Nat) : bk (cmpL l a) a = loopL l :=
  cmpL_bk_of (fun x hx => cmpS_bk x n (by unfold okL at h; exact List.all_eq_true.1 h x hx)) a
theorem bk_false (l : List Ins) : ∀ a, bk l a = false ↔ ∀ (j : Nat) x, l[j]? = some x → backI x (a + j) = false := by
  induction l with
  | nil => intro a; simp [bk]
  | cons y l ih =>
    intro a
    simp only [bk, Bool.or_eq_false_iff, ih]
    constructor
    · rintro ⟨h1, h2⟩ j x hx
      rcases j with _ | j
      · simp at hx; subst hx; exact h1
      · have := h2 j x (by simpa using hx)
        rwa [Nat.add_assoc, Nat.add_comm 1] at this
    · intro h
      refine ⟨h 0 y rfl, fun j x hx => ?_⟩
      have := h (j + 1) x (by simpa using hx)
      rwa [Nat.add_assoc, Nat.add_comm 1]
theorem fwdB_bk (t : List (List Ins)) : fwdB t = t.all fun l => !bk l 0 := by
  unfold fwdB
  congr 1
  funext l
  rw [Bool.eq_iff_iff]
  simp only [List.all_eq_true, List.mem_range, Bool.not_eq_true', bk_false]
  constructor
  · intro h j x hx
    have hj : j < l.length := by
      rcases Nat.lt_or_ge j l.length with h | h
      · exact h
      · rw [List.getElem?_eq_none h] at hx; cases hx
    have := h j hj
    rw [hx] at this
    simpa using this
  · intro h j hj
    have := h j l[j] (List.getElem?_eq_getElem hj)
    rw [List.getElem?_eq_getElem hj]
    simpa using this
/-- What is compiled leads forwards just if there is no loop. -/
theorem forwardL_cmp {p : Pg} (h : rightP p = true) : forwardL p.vars.length p.dom (cmpT p.ths) = !(p.ths.map loopL).any id := by
  unfold forwardL
  rw [rightL_cmp h, Bool.and_true, fwdB_bk]
  unfold rightP sumT okT at h
  simp only [Bool.and_eq_true, List.all_eq_true] at h
  have hok := h.2.1
  unfold cmpT
  rw [Bool.eq_iff_iff]
  simp only [List.all_eq_true, List.mem_map, Bool.not_eq_true', List.any_eq_false]
  constructor
  · rintro hh _ ⟨l, hl, rfl⟩
    have := hh _ ⟨l, hl, rfl⟩
    rw [cmpL_bk (hok l hl)] at this
    simp [this]
  · rintro hh _ ⟨l, hl, rfl⟩
    rw [cmpL_bk (hok l hl)]
    simpa using hh _ ⟨l, hl, rfl⟩
end Go.Proofs.YtekmcoflagajkaaGreatDoor
