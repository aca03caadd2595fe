/- What moves do, and that they keep what fits. No program in sight. -/
import Derived.Test.YtekmcoflagajkaaGreatDoorBunV
import Derived.Test.YtekmcoflagajkaaGreatDoorVal
import Derived.Test.YtekmcoflagajkaaGreatDoorBunU
namespace Go.Proofs.YtekmcoflagajkaaGreatDoor
open Go.RowKit

/-- What an expression is, of a thread's registers. -/
def evT (dom : Int) (x : Thr) (e : Ex) : Int := e.ev x.r0 x.r1 x.r2 x.r3 dom
/-- A register is set. -/
def setReg (x : Thr) (r n : Int) : Thr := if r = 0 then { x with r0 := n } else if r = 1 then { x with r1 := n } else if r = 2 then { x with r2 := n } else { x with r3 := n }
def memAt (mem : List Int) (v : Int) : Int := mem[v.toNat]?.getD 0
/-- What an instruction does to a thread whose place has gone on, to the memory, to what is bad; and whether it may. -/
def stepI (m b dom : Int) (x : Ins) (t : Thr) (mem : List Int) (bad : Bool) : (Thr × List Int × Bool) × Bool :=
  if x.op = 1 then ((setReg t x.reg (if (lookL x.v t.buf).2 then (lookL x.v t.buf).1 else memAt mem x.v), mem, bad), true)
  else if x.op = 2 then (if m = 0 then ((t, mem.set x.v.toNat (evT dom t x.a), bad), true) else (({ t with buf := (putL m b (x.v, evT dom t x.a) t.buf).1 }, mem, bad), (putL m b (x.v, evT dom t x.a) t.buf).2))
  else if x.op = 3 then ((setReg t x.reg (evT dom t x.a), mem, bad), true)
  else if x.op = 4 then ((t, mem, bad), t.buf.isEmpty)
  else if x.op = 5 then ((t, mem, bad), t.buf.isEmpty || !(m == 2))
  else if x.op = 6 then (if memAt mem x.v = evT dom t x.a then ((setReg t x.reg 1, mem.set x.v.toNat (evT dom t x.b), bad), t.buf.isEmpty) else ((setReg t x.reg 0, mem, bad), t.buf.isEmpty))
  else if x.op = 7 then ((t, mem.set x.v.toNat 1, bad), t.buf.isEmpty && (memAt mem x.v == 0))
  else if x.op = 8 then ((t, mem.set x.v.toNat 0, bad), t.buf.isEmpty)
  else if x.op = 9 then ((t, mem, bad || (evT dom t x.a == 0)), true)
  else if x.op = 12 then ((if evT dom t x.a = 0 then { t with pc := x.to } else t, mem, bad), true)
  else if x.op = 13 then (({ t with pc := x.to }, mem, bad), true)
  else ((t, mem, bad), true)
/-- What a thread's step does. -/
def stepL (m b dom : Int) (l : List Ins) (x : Thr) (mem : List Int) (bad : Bool) : (Thr × List Int × Bool) × Bool :=
  match l[x.pc.toNat]? with
  | some i => stepI m b dom i { x with pc := x.pc + 1 } mem bad
  | none => ((x, mem, bad), false)

theorem evT_pc (dom : Int) (x : Thr) (n : Int) (e : Ex) : evT dom { x with pc := n } e = evT dom x e := rfl

/-- Of an expression that may be, and registers in the domain, the value is in the domain. -/
theorem evT_range {D : Int} {x : Thr} {e : Ex} {deep : Nat} (hD : 1 ≤ D) (h0 : inL D x.r0 = true) (h1 : inL D x.r1 = true) (h2 : inL D x.r2 = true) (h3 : inL D x.r3 = true) (hx : e.fit D deep = true) : inL D (evT D x e) = true := by
  unfold inL at *
  simp only [Bool.and_eq_true, decide_eq_true_eq] at *
  unfold evT
  cases deep with
  | zero => simp [Ex.fit] at hx
  | succ deep =>
    obtain ⟨k, n, o, l⟩ := e
    rw [Ex.ev_eq]
    by_cases k1 : k = 1
    · subst k1
      simp [Ex.fit] at hx
      simp; omega
    by_cases k2 : k = 2
    · subst k2
      simp [Ex.fit] at hx
      simp only [if_neg k1, if_true, if_pos hx.1.1]
      split
      · exact h0
      · split
        · exact h1
        · split
          · exact h2
          · exact h3
    by_cases k3 : k = 3
    · subst k3
      rcases l with _ | ⟨x, _ | ⟨y, _ | ⟨z, l⟩⟩⟩
      · simp; omega
      · simp; omega
      · simp only [if_neg k1, if_neg k2, if_true, if_neg (show ¬ D < 1 by omega)]
        exact ⟨Int.emod_nonneg _ (by omega), Int.emod_lt_of_pos _ (by omega)⟩
      · simp; omega
    · simp [k1, k2, k3]; omega

/-- What waits, by what is ahead of each. -/
theorem waitsL_iff {vars dom m b : Int} {l : List (Int × Int)} : waitsL vars dom m b l = true ↔ ∀ p x s, l = p ++ x :: s → (putL m b x p).2 = true ∧ inL vars x.1 = true ∧ inL dom x.2 = true := by
  unfold waitsL
  rw [List.all_eq_true]
  constructor
  · intro h p x s e
    have hk := h p.length (List.mem_range.2 (by rw [e]; simp))
    unfold waitL at hk
    rw [e] at hk
    simp only [List.getElem?_append_right (Nat.le_refl _), Nat.sub_self, List.getElem?_cons_zero, List.take_left, Bool.and_eq_true] at hk
    exact ⟨hk.1.1, hk.1.2, hk.2⟩
  · intro h k hk
    have hk' : k < l.length := List.mem_range.1 hk
    have e : l = l.take k ++ l[k] :: l.drop (k + 1) := by rw [← List.drop_eq_getElem_cons hk', List.take_append_drop]
    obtain ⟨h1, h2, h3⟩ := h _ _ _ e
    unfold waitL
    rw [List.getElem?_eq_getElem hk']
    simp only [h1, h2, h3, Bool.and_self]
theorem putL_ok {m b : Int} {x : Int × Int} {p : List (Int × Int)} : (putL m b x p).2 = true ↔ ((cnt m x.1 p : Int) < b ∧ (m = 1 ∨ m = 2)) := by
  unfold putL
  split
  · rename_i h
    simp
    rcases h with h | h
    · intro h'; omega
    · intro _ ; exact h
  · rename_i h
    simp
    omega
theorem waits_put {vars dom m b : Int} {l : List (Int × Int)} {x : Int × Int} (h : waitsL vars dom m b l = true) (hp : (putL m b x l).2 = true) (h1 : inL vars x.1 = true) (h2 : inL dom x.2 = true) : waitsL vars dom m b (putL m b x l).1 = true := by
  rw [putL_snd m b x l hp]
  rw [waitsL_iff] at h ⊢
  intro p y s e
  rcases List.eq_nil_or_concat s with rfl | ⟨s', z, rfl⟩
  · have e' : l ++ [x] = p ++ [y] := e
    obtain ⟨rfl, e2⟩ := List.append_inj' e' rfl
    obtain rfl : x = y := by simpa using e2
    exact ⟨hp, h1, h2⟩
  · have e' : l ++ [x] = (p ++ y :: s') ++ [z] := by rw [e]; simp
    obtain ⟨rfl, -⟩ := List.append_inj' e' rfl
    exact h p y s' rfl
theorem cnt_app (m v : Int) (p q : List (Int × Int)) : cnt m v (p ++ q) = cnt m v p + cnt m v q := by
  unfold cnt
  rw [List.filter_append, List.length_append]
theorem waits_cut {vars dom m b : Int} {l1 l2 : List (Int × Int)} {x : Int × Int} (h : waitsL vars dom m b (l1 ++ x :: l2) = true) : waitsL vars dom m b (l1 ++ l2) = true := by
  rw [waitsL_iff] at h ⊢
  intro p y s e
  rcases List.append_eq_append_iff.1 e with ⟨a, rfl, e2⟩ | ⟨c, rfl, e2⟩
  · obtain ⟨h1, h2, h3⟩ := h (l1 ++ x :: a) y s (by rw [e2]; simp)
    refine ⟨?_, h2, h3⟩
    rw [putL_ok] at h1 ⊢
    refine ⟨?_, h1.2⟩
    have e3 := cnt_app m y.1 l1 (x :: a)
    have e4 := cnt_app m y.1 l1 a
    have e5 : cnt m y.1 a ≤ cnt m y.1 (x :: a) := by
      have := cnt_app m y.1 [x] a
      rw [List.singleton_append] at this
      omega
    omega
  · cases c with
    | nil =>
      simp only [List.nil_append] at e2 ⊢
      obtain ⟨h1, h2, h3⟩ := h (p ++ [x]) y s (by rw [← e2]; simp)
      refine ⟨?_, h2, h3⟩
      rw [putL_ok] at h1 ⊢
      refine ⟨?_, h1.2⟩
      have e3 := cnt_app m y.1 p [x]
      omega
    | cons z c =>
      simp only [List.cons_append, List.cons.injEq] at e2
      obtain ⟨rfl, rfl⟩ := e2
      exact h p y (c ++ x :: l2) (by simp)

theorem take_go (v : Int) : ∀ (l : List (Int × Int)) (s : Int × Int) (acc : List (Int × Int)), l.foldl (takeStep v) (s, acc, true) = (s, acc ++ l, true)
  | [], s, acc => by simp
  | y :: l, s, acc => by
    rw [List.foldl_cons]
    have e : takeStep v (s, acc, true) y = (s, acc ++ [y], true) := by simp [takeStep]
    rw [e, take_go v l]
    simp
/-- What Take takes. -/
theorem takB_split {v : Int} {l : List (Int × Int)} (h : ∃ y ∈ l, y.1 = v) : ∃ l1 x l2, l = l1 ++ x :: l2 ∧ takB v l = (x, l1 ++ l2, true) ∧ x.1 = v := by
  have key : ∀ (l : List (Int × Int)) (s : Int × Int) (acc : List (Int × Int)), (∃ y ∈ l, y.1 = v) → ∃ l1 x l2, l = l1 ++ x :: l2 ∧ l.foldl (takeStep v) (s, acc, false) = (x, acc ++ (l1 ++ l2), true) ∧ x.1 = v := by
    intro l
    induction l with
    | nil => rintro s acc ⟨y, hy, -⟩; cases hy
    | cons y l ih =>
      rintro s acc ⟨z, hz, hv⟩
      by_cases hy : y.1 = v
      · refine ⟨[], y, l, rfl, ?_, hy⟩
        rw [List.foldl_cons, show takeStep v (s, acc, false) y = (y, acc, true) by simp [takeStep, hy], take_go]
        rfl
      · obtain ⟨l1, x, l2, rfl, e2, e3⟩ := ih s (acc ++ [y]) ⟨z, by rcases List.mem_cons.1 hz with rfl | h; exact absurd hv hy; exact h, hv⟩
        refine ⟨y :: l1, x, l2, rfl, ?_, e3⟩
        rw [List.foldl_cons, show takeStep v (s, acc, false) y = (s, acc ++ [y], false) by simp [takeStep, hy], e2]
        simp
  obtain ⟨l1, x, l2, e1, e2, e3⟩ := key l (0, 0) [] h
  exact ⟨l1, x, l2, e1, by unfold takB; rw [e2]; rfl, e3⟩
theorem insH_mem {v a : Int} {o : List Int} (h : a ∈ insH v o) : a = v ∨ a ∈ o := by
  have key : ∀ (o : List Int) (s : List Int × Bool), a ∈ (o.foldl (insStep v) s).1 → a ∈ s.1 ∨ a = v ∨ a ∈ o := by
    intro o
    induction o with
    | nil => intro s h; exact .inl h
    | cons y o ih =>
      intro s h
      rw [List.foldl_cons] at h
      rcases ih _ h with h | h | h
      · unfold insStep at h
        split at h
        · simp only [List.mem_append, List.mem_singleton] at h
          rcases h with (h | h) | h
          · exact .inl h
          · exact .inr (.inl h)
          · exact .inr (.inr (by simp [h]))
        · simp only [List.mem_append, List.mem_singleton] at h
          rcases h with h | h
          · exact .inl h
          · exact .inr (.inr (by simp [h]))
      · exact .inr (.inl h)
      · exact .inr (.inr (by simp [h]))
  unfold insH at h
  split at h
  · rcases key o _ h with h | h
    · cases h
    · exact h
  · simp only [List.mem_append, List.mem_singleton] at h
    rcases h with h | h
    · rcases key o _ h with h | h
      · cases h
      · exact h
    · exact .inl h
theorem hdL_mem {a : Int} : ∀ l : List (Int × Int), a ∈ hdL l → a ∈ l.map (·.1) := by
  have key : ∀ l' : List (Int × Int), a ∈ hdL l'.reverse → a ∈ l'.reverse.map (·.1) := by
    intro l'
    induction l' with
    | nil => intro h; simp [hdL] at h
    | cons y l' ih =>
      intro h
      rw [List.reverse_cons, hdL_snoc] at h
      rw [List.reverse_cons, List.map_append, List.mem_append]
      split at h
      · exact .inl (ih h)
      · rcases insH_mem h with h | h
        · exact .inr (by simp [h])
        · exact .inl (ih h)
  intro l h
  have := key l.reverse (by simpa using h)
  simpa using this
/-- A head is some store's variable. -/
theorem headsL_mem {m v : Int} {l : List (Int × Int)} (h : v ∈ refHeadsL m l) : ∃ y ∈ l, y.1 = v := by
  unfold refHeadsL at h
  split at h
  · obtain ⟨y, hy, rfl⟩ := List.mem_map.1 (hdL_mem l h)
    exact ⟨y, hy, rfl⟩
  · split at h
    · have := List.mem_of_mem_take h
      obtain ⟨y, hy, rfl⟩ := List.mem_map.1 this
      exact ⟨y, hy, rfl⟩
    · cases h
/-- What is looked up was put. -/
theorem lookL_mem {v : Int} {l : List (Int × Int)} (h : (lookL v l).2 = true) : ∃ y ∈ l, (lookL v l).1 = y.2 := by
  unfold lookL at h ⊢
  cases hf : l.reverse.find? (fun y => y.1 == v) with
  | none => rw [hf] at h; cases h
  | some y =>
    exact ⟨y, by simpa using List.mem_of_find?_eq_some hf, rfl⟩
theorem waits_mem {vars dom m b : Int} {l : List (Int × Int)} (h : waitsL vars dom m b l = true) : ∀ y ∈ l, inL vars y.1 = true ∧ inL dom y.2 = true := by
  intro y hy
  obtain ⟨p, s, e⟩ := List.append_of_mem hy
  exact ((waitsL_iff.1 h) p y s e).2

theorem inL_iff {d n : Int} : inL d n = true ↔ 0 ≤ n ∧ n < d := by
  unfold inL
  simp
theorem thrL_iff {vars dom m b : Int} {x : Thr} {many : Nat} : thrL vars dom m b x many = true ↔ (0 ≤ x.pc ∧ x.pc ≤ many) ∧ (inL dom x.r0 = true ∧ inL dom x.r1 = true ∧ inL dom x.r2 = true ∧ inL dom x.r3 = true) ∧ waitsL vars dom m b x.buf = true := by
  unfold thrL
  simp only [Bool.and_eq_true, decide_eq_true_eq, and_assoc]
theorem setReg_in {dom : Int} {x : Thr} {r n : Int} (h : inL dom x.r0 = true ∧ inL dom x.r1 = true ∧ inL dom x.r2 = true ∧ inL dom x.r3 = true) (hn : inL dom n = true) :
    (inL dom (setReg x r n).r0 = true ∧ inL dom (setReg x r n).r1 = true ∧ inL dom (setReg x r n).r2 = true ∧ inL dom (setReg x r n).r3 = true) ∧ (setReg x r n).pc = x.pc ∧ (setReg x r n).buf = x.buf := by
  obtain ⟨h0, h1, h2, h3⟩ := h
  unfold setReg
  split
  · exact ⟨⟨hn, h1, h2, h3⟩, rfl, rfl⟩
  split
  · exact ⟨⟨h0, hn, h2, h3⟩, rfl, rfl⟩
  split
  · exact ⟨⟨h0, h1, hn, h3⟩, rfl, rfl⟩
  · exact ⟨⟨h0, h1, h2, hn⟩, rfl, rfl⟩

/-- What is known of a state that fits. -/
theorem fits_open {vars dom m b : Int} {t : List (List Ins)} {th : List Thr} {mem : List Int} (h : fitsL vars dom t m b th mem = true) :
    mayL vars dom t m b = true ∧ th.length = t.length ∧ (mem.length : Int) = vars ∧ (∀ n ∈ mem, inL dom n = true) ∧ ∀ i (hi : i < th.length) (hj : i < t.length), thrL vars dom m b th[i] t[i].length = true := by
  unfold fitsL at h
  simp only [Bool.and_eq_true, decide_eq_true_eq, List.all_eq_true, List.mem_range] at h
  obtain ⟨⟨⟨⟨h1, h2⟩, h3⟩, h4⟩, h5⟩ := h
  refine ⟨h1, h2, h3, h4, fun i hi hj => ?_⟩
  have := h5 i hi
  rwa [List.getElem?_eq_getElem hi, List.getElem?_eq_getElem hj, Option.getD_some, Option.getD_some] at this
theorem fits_mk {vars dom m b : Int} {t : List (List Ins)} {th : List Thr} {mem : List Int} (h1 : mayL vars dom t m b = true) (h2 : th.length = t.length) (h3 : (mem.length : Int) = vars) (h4 : ∀ n ∈ mem, inL dom n = true) (h5 : ∀ i (hi : i < th.length) (hj : i < t.length), thrL vars dom m b th[i] t[i].length = true) : fitsL vars dom t m b th mem = true := by
  unfold fitsL
  simp only [Bool.and_eq_true, decide_eq_true_eq, List.all_eq_true, List.mem_range]
  refine ⟨⟨⟨⟨h1, h2⟩, h3⟩, h4⟩, fun i hi => ?_⟩
  rw [List.getElem?_eq_getElem hi, List.getElem?_eq_getElem (by omega), Option.getD_some, Option.getD_some]
  exact h5 i hi (by omega)
/-- One thread's state and the memory are others. -/
theorem fits_set {vars dom m b : Int} {t : List (List Ins)} {th : List Thr} {mem mem' : List Int} (h : fitsL vars dom t m b th mem = true) {i : Nat} (hi : i < t.length) {x : Thr} (hx : thrL vars dom m b x t[i].length = true) (hl : mem'.length = mem.length) (hm : ∀ n ∈ mem', inL dom n = true) : fitsL vars dom t m b (th.set i x) mem' = true := by
  obtain ⟨h1, h2, h3, -, h5⟩ := fits_open h
  refine fits_mk h1 (by simpa using h2) (by omega) hm fun k hk hj => ?_
  by_cases e : i = k
  · subst e
    rw [List.getElem_set_self]
    exact hx
  · rw [List.getElem_set_ne e]
    exact h5 k (by simpa using hk) hj
theorem mem_set_in {dom : Int} {mem : List Int} {k : Nat} {n : Int} (hm : ∀ n ∈ mem, inL dom n = true) (hn : inL dom n = true) : ∀ z ∈ mem.set k n, inL dom z = true := by
  intro z hz
  rcases List.mem_or_eq_of_mem_set hz with h | rfl
  · exact hm z h
  · exact hn
/-- What is known of an instruction of code that may be. -/
theorem ins_facts {vars dom : Int} {t : List (List Ins)} (h : rightL vars dom t = true) {i : Nat} (hi : i < t.length) {x : Ins} (hx : x ∈ t[i]) : insL vars dom x t[i].length = true ∧ 2 ≤ dom := by
  unfold rightL at h
  simp only [Bool.and_eq_true, decide_eq_true_eq, List.all_eq_true] at h
  have := h.2 t[i] (List.getElem_mem hi)
  unfold rowL at this
  simp only [Bool.and_eq_true, List.all_eq_true] at this
  exact ⟨this.2 x hx, by omega⟩
/-- A step keeps what fits. -/
theorem step_fits {vars dom m b : Int} {t : List (List Ins)} {th : List Thr} {mem : List Int} {bad : Bool} (hf : fitsL vars dom t m b th mem = true) {i : Nat} (hi : i < th.length) (hj : i < t.length) (hs : (stepL m b dom t[i] th[i] mem bad).2 = true) :
    fitsL vars dom t m b (th.set i (stepL m b dom t[i] th[i] mem bad).1.1) (stepL m b dom t[i] th[i] mem bad).1.2.1 = true := by
  obtain ⟨f1, f2, f3, f4, f5⟩ := fits_open hf
  have hx := f5 i hi hj
  rw [thrL_iff] at hx
  obtain ⟨⟨p0, p1⟩, hr, hw⟩ := hx
  have hright : rightL vars dom t = true := by
    unfold mayL at f1
    simp only [Bool.and_eq_true] at f1
    exact f1.1.1.1.1
  have hm : 0 ≤ m ∧ m ≤ 2 := by
    unfold mayL at f1
    simp only [Bool.and_eq_true, decide_eq_true_eq] at f1
    omega
  unfold stepL at hs ⊢
  cases hg : t[i][th[i].pc.toNat]? with
  | none => rw [hg] at hs; cases hs
  | some x =>
  rw [hg] at hs
  simp only at hs ⊢
  have hk : th[i].pc.toNat < t[i].length := by
    rcases Nat.lt_or_ge th[i].pc.toNat t[i].length with h | h
    · exact h
    · rw [List.getElem?_eq_none h] at hg; cases hg
  have hxm : x ∈ t[i] := List.mem_of_getElem? hg
  obtain ⟨hin, hd2⟩ := ins_facts hright hj hxm
  generalize th[i] = y at *
  obtain ⟨pc, r0, r1, r2, r3, buf⟩ := y
  simp only at p0 p1 hr hw hk hs ⊢
  have hpc : (0 : Int) ≤ pc + 1 ∧ pc + 1 ≤ (t[i].length : Int) := by omega
  have E : ∀ e : Ex, e.fit dom 20 = true → inL dom (evT dom ⟨pc + 1, r0, r1, r2, r3, buf⟩ e) = true := fun e he => evT_range (by omega) hr.1 hr.2.1 hr.2.2.1 hr.2.2.2 he
  have i0 : inL dom 0 = true := inL_iff.2 ⟨by omega, by omega⟩
  have i1 : inL dom 1 = true := inL_iff.2 ⟨by omega, by omega⟩
  have base : thrL vars dom m b ⟨pc + 1, r0, r1, r2, r3, buf⟩ t[i].length = true := thrL_iff.2 ⟨hpc, hr, hw⟩
  have reg : ∀ r n : Int, inL dom n = true → thrL vars dom m b (setReg ⟨pc + 1, r0, r1, r2, r3, buf⟩ r n) t[i].length = true := fun r n hn => by
    obtain ⟨g1, g2, g3⟩ := setReg_in (x := ⟨pc + 1, r0, r1, r2, r3, buf⟩) (r := r) hr hn
    rw [thrL_iff, g2, g3]
    exact ⟨hpc, g1, hw⟩
  have memv : ∀ v : Int, 0 ≤ v → v < vars → inL dom (memAt mem v) = true := fun v v0 v1 => by
    unfold memAt
    have hv : v.toNat < mem.length := by omega
    rw [List.getElem?_eq_getElem hv, Option.getD_some]
    exact f4 _ (List.getElem_mem hv)
  have set_ : ∀ (z : Thr) (v n : Int), thrL vars dom m b z t[i].length = true → inL dom n = true → fitsL vars dom t m b (th.set i z) (mem.set v.toNat n) = true := fun z v n hz hn => fits_set hf hj hz (by simp) (mem_set_in f4 hn)
  have keep_ : ∀ z : Thr, thrL vars dom m b z t[i].length = true → fitsL vars dom t m b (th.set i z) mem = true := fun z hz => fits_set hf hj hz rfl f4
  unfold insL at hin
  simp only [Bool.and_eq_true, decide_eq_true_eq] at hin
  obtain ⟨⟨⟨⟨k1, k2⟩, t0⟩, t1⟩, hp⟩ := hin
  have hop : x.op = 1 ∨ x.op = 2 ∨ x.op = 3 ∨ x.op = 4 ∨ x.op = 5 ∨ x.op = 6 ∨ x.op = 7 ∨ x.op = 8 ∨ x.op = 9 ∨ x.op = 12 ∨ x.op = 13 := by
    unfold insK at k1 k2
    by_cases e1 : x.op = 12
    · simp [e1]
    by_cases e2 : x.op = 13
    · simp [e2]
    rw [if_neg e1, if_neg e2] at k1 k2
    omega
  obtain ⟨op, rg, v, xa, xb, to⟩ := x
  simp only at hop k1 k2 t0 t1 hp hs ⊢
  rcases hop with rfl | rfl | rfl | rfl | rfl | rfl | rfl | rfl | rfl | rfl | rfl <;>
    simp [insK, insT, partL, numL, oneL, h0, h1, h2, h3] at hp t1 <;> simp [stepI] at hs ⊢
  · refine keep_ _ (reg _ _ ?_)
    split
    · rename_i hl
      obtain ⟨y, hy, e⟩ := lookL_mem hl
      rw [e]
      exact (waits_mem hw y hy).2
    · exact memv v hp.1.1.2.1 hp.1.1.2.2
  · by_cases hm0 : m = 0
    · simp only [if_pos hm0] at hs ⊢
      exact set_ _ _ _ base (E _ hp.1.2)
    · simp only [if_neg hm0] at hs ⊢
      exact keep_ _ (thrL_iff.2 ⟨hpc, hr, waits_put hw hs (inL_iff.2 hp.1.1.2) (E _ hp.1.2)⟩)
  · exact keep_ _ (reg _ _ (E _ hp.1.2))
  · exact keep_ _ base
  · exact keep_ _ base
  · split
    · exact set_ _ _ _ (reg _ _ i1) (E _ hp.2)
    · exact keep_ _ (reg _ _ i0)
  · exact set_ _ _ _ base i1
  · exact set_ _ _ _ base i0
  · exact keep_ _ base
  · refine keep_ _ ?_
    split
    · exact thrL_iff.2 ⟨⟨t0, t1⟩, hr, hw⟩
    · exact base
  · exact keep_ _ (thrL_iff.2 ⟨⟨t0, t1⟩, hr, hw⟩)
/-- What is flushed keeps what fits. -/
theorem flush_fits {vars dom m b v : Int} {t : List (List Ins)} {th : List Thr} {mem : List Int} (hf : fitsL vars dom t m b th mem = true) {i : Nat} (hi : i < th.length) (hj : i < t.length) (hv : v ∈ refHeadsL m th[i].buf) :
    ∃ n : Int, takB v th[i].buf = ((v, n), (takB v th[i].buf).2.1, true) ∧ 0 ≤ v ∧ v < vars ∧ fitsL vars dom t m b (th.set i { th[i] with buf := (takB v th[i].buf).2.1 }) (mem.set v.toNat n) = true := by
  obtain ⟨f1, f2, f3, f4, f5⟩ := fits_open hf
  have hx := f5 i hi hj
  rw [thrL_iff] at hx
  obtain ⟨hp, hr, hw⟩ := hx
  obtain ⟨l1, x, l2, e1, e2, e3⟩ := takB_split (headsL_mem hv)
  obtain ⟨w1, w2⟩ := waits_mem hw x (by rw [e1]; simp)
  rw [inL_iff, e3] at w1
  rw [e1] at hw
  refine ⟨x.2, ?_, w1.1, w1.2, ?_⟩
  · rw [e2, ← e3]
  · rw [e2]
    exact fits_set hf hj (thrL_iff.2 ⟨hp, hr, waits_cut hw⟩) (by simp) (mem_set_in f4 w2)
/-- The first state fits. -/
theorem start_fits {vars dom m b : Int} {t : List (List Ins)} (h : mayL vars dom t m b = true) : fitsL vars dom t m b (List.replicate t.length .zero) (List.replicate vars.toNat 0) = true := by
  have hr : 1 ≤ vars ∧ 2 ≤ dom := by
    unfold mayL rightL at h
    simp only [Bool.and_eq_true, decide_eq_true_eq] at h
    omega
  have i0 : inL dom 0 = true := inL_iff.2 ⟨by omega, by omega⟩
  refine fits_mk h (by simp) (by simp; omega) (fun n hn => ?_) fun i hi hj => ?_
  · rw [(List.mem_replicate.1 hn).2]; exact i0
  · rw [List.getElem_replicate]
    exact thrL_iff.2 ⟨⟨Int.le_refl _, by show (0 : Int) ≤ _; omega⟩, ⟨i0, i0, i0, i0⟩, rfl⟩
end Go.Proofs.YtekmcoflagajkaaGreatDoor
namespace Go.Proofs.YtekmcoflagajkaaGreatDoor
open Go.RowKit

/-- A thread's state whose numbers fit into bytes. -/
structure SmT (x : Thr) : Prop where
  pc : 0 ≤ x.pc ∧ x.pc < 65536
  r0 : 0 ≤ x.r0 ∧ x.r0 < 256
  r1 : 0 ≤ x.r1 ∧ x.r1 < 256
  r2 : 0 ≤ x.r2 ∧ x.r2 < 256
  r3 : 0 ≤ x.r3 ∧ x.r3 < 256
  bl : x.buf.length < 256
  bu : ∀ y ∈ x.buf, (0 ≤ y.1 ∧ y.1 < 256) ∧ (0 ≤ y.2 ∧ y.2 < 256)
theorem pairs_bufB : ∀ (l : List (Int × Int)) (r : List Int), (∀ y ∈ l, (0 ≤ y.1 ∧ y.1 < 256) ∧ (0 ≤ y.2 ∧ y.2 < 256)) → pairsL l.length (bufB l ++ r) = l := by
  intro l r h
  apply List.ext_getElem
  · rw [pairsL_len]
  · intro k h1 h2
    have e0 : (pairsL l.length (bufB l ++ r))[k]'h1 = ((bufB l ++ r).getD (2 * k) 0, (bufB l ++ r).getD (2 * k + 1) 0) := by simp [pairsL]
    rw [e0]
    have key : ∀ (l : List (Int × Int)) (k : Nat) (hk : k < l.length), (bufB l ++ r).getD (2 * k) 0 = by8 l[k].1 ∧ (bufB l ++ r).getD (2 * k + 1) 0 = by8 l[k].2 := by
      intro l
      induction l with
      | nil => intro k hk; simp at hk
      | cons y l ih =>
        intro k hk
        have e : bufB (y :: l) ++ r = by8 y.1 :: by8 y.2 :: (bufB l ++ r) := rfl
        rw [e]
        cases k with
        | zero => exact ⟨rfl, rfl⟩
        | succ k =>
          have := ih k (by simpa using hk)
          rw [show 2 * (k + 1) = 2 * k + 1 + 1 by omega, List.getD_cons_succ, List.getD_cons_succ, List.getD_cons_succ, List.getD_cons_succ]
          exact this
    obtain ⟨e1, e2⟩ := key l k h2
    obtain ⟨g1, g2⟩ := h l[k] (List.getElem_mem h2)
    rw [e1, e2, by8_id g1, by8_id g2]
theorem takeThr_thrB {x : Thr} (h : SmT x) (r : List Int) : takeThr (thrB x ++ r) = some (x, r) := by
  obtain ⟨pc, r0, r1, r2, r3, buf⟩ := x
  obtain ⟨h1, h2, h3, h4, h5, h6, h7⟩ := h
  simp only at h1 h2 h3 h4 h5 h6 h7
  have e : thrB ⟨pc, r0, r1, r2, r3, buf⟩ ++ r = by8 (pc / 256) :: by8 pc :: by8 r0 :: by8 r1 :: by8 r2 :: by8 r3 :: by8 buf.length :: (bufB buf ++ r) := by
    unfold thrB; simp
  have hb : by8 (buf.length : Int) = (buf.length : Int) := by8_id ⟨by omega, by omega⟩
  rw [e]
  rw [takeThr_ok (n := buf.length) (by simp only [List.getD_cons_zero, List.getD_cons_succ]; exact hb) (by simp only [List.length_cons, List.length_append, bufB_len]; omega)]
  simp only [List.getD_cons_zero, List.getD_cons_succ]
  have e2 : (by8 (pc / 256) :: by8 pc :: by8 r0 :: by8 r1 :: by8 r2 :: by8 r3 :: by8 (buf.length : Int) :: (bufB buf ++ r)).drop 7 = bufB buf ++ r := rfl
  have e3 : (by8 (pc / 256) :: by8 pc :: by8 r0 :: by8 r1 :: by8 r2 :: by8 r3 :: by8 (buf.length : Int) :: (bufB buf ++ r)).drop (7 + 2 * buf.length) = r := by
    rw [← List.drop_drop, e2, ← bufB_len buf, List.drop_left]
  rw [e2, e3, pairs_bufB buf r h7, by8_id h2, by8_id h3, by8_id h4, by8_id h5]
  have e4 : 256 * by8 (pc / 256) + by8 pc = pc := by rw [by8_eq, by8_eq]; omega
  rw [e4]
theorem takeThrs_flat : ∀ (th : List Thr) (r : List Int), (∀ x ∈ th, SmT x) → takeThrs th.length (th.flatMap thrB ++ r) = some (th, r) := by
  have key : ∀ (th' : List Thr) (r : List Int), (∀ x ∈ th'.reverse, SmT x) → takeThrs th'.reverse.length (th'.reverse.flatMap thrB ++ r) = some (th'.reverse, r) := by
    intro th'
    induction th' with
    | nil => intro r _; rfl
    | cons x th' ih =>
      intro r h
      rw [List.reverse_cons] at h ⊢
      have hx := takeThr_thrB (h x (by simp)) r
      have h2 := ih (thrB x ++ r) fun y hy => h y (by simp at hy ⊢; exact .inl hy)
      rw [List.length_append, List.length_singleton, List.flatMap_append]
      have e : List.flatMap thrB [x] = thrB x := by simp
      rw [e, List.append_assoc]
      exact takeThrs_step h2 hx
  intro th r h
  have := key th.reverse r (by simpa using h)
  simpa using this
/-- What is packed is unpacked to the same. -/
theorem unpL_packB {th : List Thr} {mem : List Int} {bad : Bool} (h : ∀ x ∈ th, SmT x) (hm : ∀ n ∈ mem, 0 ≤ n ∧ n < 256) : unpL mem.length th.length (packB th mem bad) = some (bad, mem, th) := by
  have e : packB th mem bad = (if bad then 1 else 0) :: (mem.map by8 ++ th.flatMap thrB) := by unfold packB; simp
  have em : mem.map by8 = mem := by
    refine (List.map_congr_left fun x hx => ?_).trans (List.map_id _)
    exact by8_id (hm x hx)
  rw [em] at e
  have h1 : (packB th mem bad).drop (1 + mem.length) = th.flatMap thrB := by
    rw [e, Nat.add_comm, List.drop_succ_cons, List.drop_left]
  have h2 := takeThrs_flat th [] h
  rw [List.append_nil, ← h1] at h2
  rw [unpL_some (by rw [e]; simp only [List.length_cons, List.length_append]; omega) (by rw [e, List.getD_cons_zero]; cases bad <;> decide) h2]
  have e3 : ((packB th mem bad).getD 0 0 == 1) = bad := by rw [e, List.getD_cons_zero]; cases bad <;> rfl
  have e4 : ((packB th mem bad).take (1 + mem.length)).drop 1 = mem := by
    rw [e, Nat.add_comm, List.take_succ_cons, List.drop_succ_cons, List.drop_zero, List.take_left]
  rw [e4, e3]
/-- Unlike states have unlike bytes. -/
theorem packB_inj {th th' : List Thr} {mem mem' : List Int} {bad bad' : Bool} (h : ∀ x ∈ th, SmT x) (hm : ∀ n ∈ mem, 0 ≤ n ∧ n < 256) (h' : ∀ x ∈ th', SmT x) (hm' : ∀ n ∈ mem', 0 ≤ n ∧ n < 256) (hl : th.length = th'.length) (hml : mem.length = mem'.length)
    (e : packB th mem bad = packB th' mem' bad') : bad = bad' ∧ mem = mem' ∧ th = th' := by
  have h1 := unpL_packB (bad := bad) h hm
  have h2 := unpL_packB (bad := bad') h' hm'
  rw [e, hl, hml, h2] at h1
  simp only [Option.some.injEq, Prod.mk.injEq] at h1
  exact ⟨h1.1.symm, h1.2.1.symm, h1.2.2.symm⟩
theorem by8_bytes (l : List Int) : ∀ x ∈ l.map by8, 0 ≤ x ∧ x < 256 := by
  intro x hx
  obtain ⟨y, -, rfl⟩ := List.mem_map.1 hx
  rw [by8_eq]
  omega
/-- What fits is small, as long as not too many stores wait. -/
theorem fits_small {vars dom m b : Int} {t : List (List Ins)} {th : List Thr} {mem : List Int} (hf : fitsL vars dom t m b th mem = true) (hb : ∀ x ∈ th, x.buf.length < 256) : (∀ x ∈ th, SmT x) ∧ (∀ n ∈ mem, 0 ≤ n ∧ n < 256) := by
  obtain ⟨f1, f2, f3, f4, f5⟩ := fits_open hf
  have hr : rightL vars dom t = true := by
    unfold mayL at f1
    simp only [Bool.and_eq_true] at f1
    exact f1.1.1.1.1
  unfold rightL at hr
  simp only [Bool.and_eq_true, decide_eq_true_eq, List.all_eq_true] at hr
  obtain ⟨⟨⟨⟨⟨⟨v1, v4⟩, d2⟩, d16⟩, t1⟩, t4⟩, hrow⟩ := hr
  refine ⟨fun x hx => ?_, fun n hn => by have := inL_iff.1 (f4 n hn); omega⟩
  obtain ⟨i, hi, rfl⟩ := List.mem_iff_getElem.1 hx
  have h5 := f5 i hi (by omega)
  rw [thrL_iff] at h5
  obtain ⟨⟨p0, p1⟩, ⟨q0, q1, q2, q3⟩, hw⟩ := h5
  have hl : t[i].length ≤ 600 := by
    have := hrow _ (List.getElem_mem (show i < t.length by omega))
    unfold rowL at this
    simp only [Bool.and_eq_true, decide_eq_true_eq] at this
    exact this.1
  rw [inL_iff] at q0 q1 q2 q3
  exact ⟨by omega, by omega, by omega, by omega, by omega, hb _ hx, fun y hy => by
    obtain ⟨w1, w2⟩ := waits_mem hw y hy
    rw [inL_iff] at w1 w2
    omega⟩
/-- How many stores wait: at most one more. -/
theorem stepI_buf (m b dom : Int) (x : Ins) (t : Thr) (mem : List Int) (bad : Bool) : (stepI m b dom x t mem bad).1.1.buf.length ≤ t.buf.length + 1 := by
  have hs : ∀ r n : Int, (setReg t r n).buf = t.buf := fun r n => by unfold setReg; repeat' split
                                                                     all_goals rfl
  have hp : ∀ y : Int × Int, (putL m b y t.buf).1.length ≤ t.buf.length + 1 := fun y => by unfold putL; split <;> simp
  have hr : ∀ r n : Int, (setReg t r n).buf.length ≤ t.buf.length + 1 := fun r n => by rw [hs]; omega
  have h0 : t.buf.length ≤ t.buf.length + 1 := Nat.le_succ _
  unfold stepI
  by_cases e1 : x.op = 1
  · rw [if_pos e1]; exact hr _ _
  rw [if_neg e1]
  by_cases e2 : x.op = 2
  · rw [if_pos e2]
    by_cases e0 : m = 0
    · rw [if_pos e0]; exact h0
    · rw [if_neg e0]; exact hp _
  rw [if_neg e2]
  by_cases e3 : x.op = 3
  · rw [if_pos e3]; exact hr _ _
  rw [if_neg e3]
  by_cases e4 : x.op = 4
  · rw [if_pos e4]; exact h0
  rw [if_neg e4]
  by_cases e5 : x.op = 5
  · rw [if_pos e5]; exact h0
  rw [if_neg e5]
  by_cases e6 : x.op = 6
  · rw [if_pos e6]
    by_cases e0 : memAt mem x.v = evT dom t x.a
    · rw [if_pos e0]; exact hr _ _
    · rw [if_neg e0]; exact hr _ _
  rw [if_neg e6]
  by_cases e7 : x.op = 7
  · rw [if_pos e7]; exact h0
  rw [if_neg e7]
  by_cases e8 : x.op = 8
  · rw [if_pos e8]; exact h0
  rw [if_neg e8]
  by_cases e9 : x.op = 9
  · rw [if_pos e9]; exact h0
  rw [if_neg e9]
  by_cases e12 : x.op = 12
  · rw [if_pos e12]
    show (if evT dom t x.a = 0 then ({ t with pc := x.to } : Thr) else t).buf.length ≤ _
    by_cases e0 : evT dom t x.a = 0
    · rw [if_pos e0]; exact h0
    · rw [if_neg e0]; exact h0
  rw [if_neg e12]
  by_cases e13 : x.op = 13
  · rw [if_pos e13]; exact h0
  · rw [if_neg e13]; exact h0
end Go.Proofs.YtekmcoflagajkaaGreatDoor
