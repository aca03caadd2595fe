/- A program's text tells the program: the text is read back. No program in sight. -/
import Derived.Test.YtphlbbnmligadaaGreatDoorBunP
import Derived.Test.YtphlbbnmligadaaGreatDoorMdA
import Derived.Test.YtphlbbnmligadaaGreatDoorBunS
namespace Go.Proofs.YtphlbbnmligadaaGreatDoor
open Go.RowKit

def hd (s : List UInt8) : UInt8 := s.headD 0
def nB (c : UInt8) : Int := (c.toNat : Int) - 48
def vB (c : UInt8) : Int := (c.toNat : Int) - 120

/-- A sign is read. -/
def rdO (s : List UInt8) : Int × List UInt8 := if hd s = 61 ∨ hd s = 33 then ((hd s).toNat, s.drop 2) else ((hd s).toNat, s.drop 1)
/-- An expression is read. -/
def rdE : Nat → List UInt8 → Ex × List UInt8
  | 0, s => (exZ, s)
  | f + 1, s =>
    if hd s = 40 then
      (.mk 3 0 (rdO ((rdE f (s.drop 1)).2.drop 1)).1 [(rdE f (s.drop 1)).1, (rdE f ((rdO ((rdE f (s.drop 1)).2.drop 1)).2.drop 1)).1], (rdE f ((rdO ((rdE f (s.drop 1)).2.drop 1)).2.drop 1)).2.drop 1)
    else if hd s = 114 then (.mk 2 (nB (hd (s.drop 1))) 0 [], s.drop 2)
    else (.mk 1 (nB (hd s)) 0 [], s.drop 1)

theorem dig_lit {n : Int} (h0 : 0 ≤ n) (h1 : n < 5) : ∃ c : UInt8, digB n = [c] ∧ nB c = n ∧ (c = 48 ∨ c = 49 ∨ c = 50 ∨ c = 51 ∨ c = 52) := by
  have : n = 0 ∨ n = 1 ∨ n = 2 ∨ n = 3 ∨ n = 4 := by omega
  rcases this with rfl | rfl | rfl | rfl | rfl
  · exact ⟨48, rfl, rfl, by simp⟩
  · exact ⟨49, rfl, rfl, by simp⟩
  · exact ⟨50, rfl, rfl, by simp⟩
  · exact ⟨51, rfl, rfl, by simp⟩
  · exact ⟨52, rfl, rfl, by simp⟩
theorem isOp_cases {o : Int} (h : isOp o = true) : o = 43 ∨ o = 45 ∨ o = 42 ∨ o = 60 ∨ o = 38 ∨ o = 124 ∨ o = 61 ∨ o = 33 := by
  unfold isOp at h
  simp only [Bool.or_eq_true, beq_iff_eq] at h
  omega
theorem rdO_ok {o : Int} (h : isOp o = true) (R : List UInt8) : rdO (sgn o ++ R) = (o, R) := by
  rcases isOp_cases h with rfl | rfl | rfl | rfl | rfl | rfl | rfl | rfl <;> rfl
theorem rdE_ok {dom : Int} (hdom : dom ≤ 4) : ∀ (d : Nat) (x : Ex) (R : List UInt8), x.fit dom d = true → rdE d (x.txt ++ R) = (x, R)
  | 0, x, R, h => by unfold Ex.fit at h; cases h
  | d + 1, .mk k n o l, R, h => by
    rcases Ex.fit_open h with ⟨rfl, h0, h1, rfl, rfl⟩ | ⟨rfl, h0, h1, rfl, rfl⟩ | ⟨rfl, rfl, ho, x, y, rfl, hx, hy⟩
    · rw [Ex.txt_num]
      obtain ⟨c, e1, e2, e3⟩ := dig_lit h0 (by omega)
      rw [e1, ← e2]
      rcases e3 with rfl | rfl | rfl | rfl | rfl <;> rfl
    · rw [Ex.txt_reg]
      obtain ⟨c, e1, e2, e3⟩ := dig_lit h0 (by omega)
      rw [e1, ← e2]
      rcases e3 with rfl | rfl | rfl | rfl | rfl <;> rfl
    · rw [Ex.txt_two]
      have e1 : rdE d (x.txt ++ ([32] ++ (sgn o ++ ([32] ++ (y.txt ++ ([41] ++ R)))))) = (x, [32] ++ (sgn o ++ ([32] ++ (y.txt ++ ([41] ++ R))))) := rdE_ok hdom d x _ hx
      have e2 : rdE d (y.txt ++ ([41] ++ R)) = (y, [41] ++ R) := rdE_ok hdom d y _ hy
      have e3 := rdO_ok ho ([32] ++ (y.txt ++ ([41] ++ R)))
      simp only [List.append_assoc]
      unfold rdE
      rw [if_pos (by rfl)]
      simp only [List.drop_succ_cons, List.drop_zero, List.cons_append, List.nil_append] at e1 e2 e3 ⊢
      simp only [e1, List.drop_succ_cons, List.drop_zero, e3, e2]

theorem txt_hd {dom : Int} (hdom : dom ≤ 4) {d : Nat} {x : Ex} (h : x.fit dom d = true) : ∃ c l, x.txt = c :: l ∧ ¬ 120 ≤ c.toNat ∧ c ≠ 99 := by
  cases d with
  | zero => unfold Ex.fit at h; cases h
  | succ d =>
    obtain ⟨k, n, o, l⟩ := x
    rcases Ex.fit_open h with ⟨rfl, h0, h1, rfl, rfl⟩ | ⟨rfl, h0, h1, rfl, rfl⟩ | ⟨rfl, rfl, ho, x, y, rfl, hx, hy⟩
    · rw [Ex.txt_num]
      obtain ⟨c, e1, e2, e3⟩ := dig_lit h0 (by omega)
      rw [e1]
      exact ⟨c, [], rfl, by rcases e3 with rfl | rfl | rfl | rfl | rfl <;> decide, by rcases e3 with rfl | rfl | rfl | rfl | rfl <;> decide⟩
    · rw [Ex.txt_reg]
      exact ⟨114, _, rfl, by decide, by decide⟩
    · rw [Ex.txt_two]
      exact ⟨40, _, rfl, by decide, by decide⟩

mutual
/-- A statement is read. -/
def rdS : Nat → List UInt8 → St × List UInt8
  | 0, s => (.mk 0 0 0 exZ exZ [] [], s)
  | f + 1, s =>
    if hd s = 114 then
      (if 120 ≤ (hd (s.drop 5)).toNat then (.mk 1 (nB (hd (s.drop 1))) (vB (hd (s.drop 5))) exZ exZ [] [], s.drop 7)
      else if hd (s.drop 5) = 99 then
        (.mk 6 (nB (hd (s.drop 1))) (vB (hd (s.drop 9))) (rdE 20 (s.drop 12)).1 (rdE 20 ((rdE 20 (s.drop 12)).2.drop 2)).1 [] [], (rdE 20 ((rdE 20 (s.drop 12)).2.drop 2)).2.drop 2)
      else (.mk 3 (nB (hd (s.drop 1))) 0 (rdE 20 (s.drop 5)).1 exZ [] [], (rdE 20 (s.drop 5)).2.drop 1))
    else if 120 ≤ (hd s).toNat then (.mk 2 0 (vB (hd s)) (rdE 20 (s.drop 4)).1 exZ [] [], (rdE 20 (s.drop 4)).2.drop 1)
    else if hd s = 102 then (.mk 4 0 0 exZ exZ [] [], s.drop 6)
    else if hd s = 115 then (.mk 5 0 0 exZ exZ [] [], s.drop 7)
    else if hd s = 108 then (.mk 7 0 (vB (hd (s.drop 5))) exZ exZ [] [], s.drop 7)
    else if hd s = 117 then (.mk 8 0 (vB (hd (s.drop 7))) exZ exZ [] [], s.drop 9)
    else if hd s = 97 then (.mk 9 0 0 (rdE 20 (s.drop 7)).1 exZ [] [], (rdE 20 (s.drop 7)).2.drop 1)
    else if hd s = 119 then (.mk 11 0 0 (rdE 20 (s.drop 6)).1 exZ (rdL f ((rdE 20 (s.drop 6)).2.drop 3)).1 [], (rdL f ((rdE 20 (s.drop 6)).2.drop 3)).2)
    else if hd (rdL f ((rdE 20 (s.drop 3)).2.drop 3)).2 = 32 then
      (.mk 10 0 0 (rdE 20 (s.drop 3)).1 exZ (rdL f ((rdE 20 (s.drop 3)).2.drop 3)).1 (rdL f ((rdL f ((rdE 20 (s.drop 3)).2.drop 3)).2.drop 8)).1, (rdL f ((rdL f ((rdE 20 (s.drop 3)).2.drop 3)).2.drop 8)).2)
    else (.mk 10 0 0 (rdE 20 (s.drop 3)).1 exZ (rdL f ((rdE 20 (s.drop 3)).2.drop 3)).1 [], (rdL f ((rdE 20 (s.drop 3)).2.drop 3)).2)
/-- Statements in braces are read, but for the first one. -/
def rdL : Nat → List UInt8 → List St × List UInt8
  | 0, s => ([], s)
  | f + 1, s =>
    if hd s = 125 then ([], s.drop 1)
    else ((rdS f s).1 :: (rdL f ((rdS f s).2.drop 1)).1, (rdL f ((rdS f s).2.drop 1)).2)
end

/-- How much is to be read. -/
def szS : St → Nat
  | .mk _ _ _ _ _ t e => 2 + (t.attach.map fun x => szS x.1 + 1).sum + (e.attach.map fun x => szS x.1 + 1).sum
termination_by x => SizeOf.sizeOf x
decreasing_by
  all_goals
    have := List.sizeOf_lt_of_mem x.2
    simp only [St.mk.sizeOf_spec]; omega
def szL (l : List St) : Nat := (l.map fun x => szS x + 1).sum
theorem szS_eq (x : St) : szS x = 2 + szL x.t + szL x.e := by
  rcases x with ⟨k, r, v, a, b, t, e⟩
  rw [szS, List.attach_map_val (f := fun x => szS x + 1), List.attach_map_val (f := fun x => szS x + 1)]
  rfl
theorem szL_cons (x : St) (l : List St) : szL (x :: l) = szS x + 1 + szL l := by simp [szL]

theorem lnsB_cons (vs : List ByteArray) (x : St) (l : List St) : lnsB vs (x :: l) = stB vs x ++ [10] ++ lnsB vs l := by
  have h : ∀ (l : List St) (acc : List UInt8), l.foldl (fun acc x => acc ++ (stB vs x ++ [10])) acc = acc ++ lnsB vs l := by
    intro l
    induction l with
    | nil => intro acc; simp [lnsB]
    | cons y l ih =>
      intro acc
      unfold lnsB
      rw [List.foldl_cons, List.foldl_cons, ih, ih]
      simp
  unfold lnsB
  rw [List.foldl_cons, h]
  simp [lnsB]

theorem nm_lit {q : Nat} (h3 : q ≤ 3) {v : Int} (h0 : 0 ≤ v) (h1 : v < q) : ∃ c : UInt8, nmB (nms q) v = [c] ∧ vB c = v ∧ (c = 120 ∨ c = 121 ∨ c = 122) := by
  have hq : q = 0 ∨ q = 1 ∨ q = 2 ∨ q = 3 := by omega
  have hv : v = 0 ∨ v = 1 ∨ v = 2 := by omega
  rcases hv with rfl | rfl | rfl
  · refine ⟨120, ?_, rfl, by simp⟩
    rcases hq with rfl | rfl | rfl | rfl
    · omega
    · rfl
    · rfl
    · rfl
  · refine ⟨121, ?_, rfl, by simp⟩
    rcases hq with rfl | rfl | rfl | rfl
    · omega
    · omega
    · rfl
    · rfl
  · refine ⟨122, ?_, rfl, by simp⟩
    rcases hq with rfl | rfl | rfl | rfl
    · omega
    · omega
    · omega
    · rfl

theorem none_eq {x : Ex} (h : x.none = true) : x = exZ := by
  obtain ⟨k, n, o, l⟩ := x
  unfold Ex.none at h
  simp only [Bool.and_eq_true, beq_iff_eq, List.isEmpty_iff] at h
  obtain ⟨⟨⟨rfl, rfl⟩, rfl⟩, rfl⟩ := h
  rfl
/-- The forms of a statement that may be. -/
theorem okS_open {q : Nat} {dom : Int} {d : Nat} {x : St} (h : okS q dom (d + 1) x = true) :
    (∃ r v, x = .mk 1 r v exZ exZ [] [] ∧ (0 ≤ r ∧ r < 4) ∧ (0 ≤ v ∧ v < (q : Int))) ∨
    (∃ v a, x = .mk 2 0 v a exZ [] [] ∧ (0 ≤ v ∧ v < (q : Int)) ∧ a.fit dom 20 = true) ∨
    (∃ r a, x = .mk 3 r 0 a exZ [] [] ∧ (0 ≤ r ∧ r < 4) ∧ a.fit dom 20 = true) ∨
    (x = .mk 4 0 0 exZ exZ [] []) ∨ (x = .mk 5 0 0 exZ exZ [] []) ∨
    (∃ r v a b, x = .mk 6 r v a b [] [] ∧ (0 ≤ r ∧ r < 4) ∧ (0 ≤ v ∧ v < (q : Int)) ∧ a.fit dom 20 = true ∧ b.fit dom 20 = true) ∨
    (∃ v, x = .mk 7 0 v exZ exZ [] [] ∧ (0 ≤ v ∧ v < (q : Int))) ∨
    (∃ v, x = .mk 8 0 v exZ exZ [] [] ∧ (0 ≤ v ∧ v < (q : Int))) ∨
    (∃ a, x = .mk 9 0 0 a exZ [] [] ∧ a.fit dom 20 = true) ∨
    (∃ a t e, x = .mk 10 0 0 a exZ t e ∧ a.fit dom 20 = true ∧ okL q dom d t = true ∧ okL q dom d e = true) ∨
    (∃ a t, x = .mk 11 0 0 a exZ t [] ∧ a.fit dom 20 = true ∧ okL q dom d t = true) := by
  obtain ⟨k, r, v, a, b, t, e⟩ := x
  rw [okS_succ, okF_mk] at h
  simp only [Bool.and_eq_true, decide_eq_true_eq] at h
  obtain ⟨⟨⟨⟨⟨⟨k1, k2⟩, hp⟩, ht⟩, he⟩, hkt⟩, hke⟩ := h
  have hk : k = 1 ∨ k = 2 ∨ k = 3 ∨ k = 4 ∨ k = 5 ∨ k = 6 ∨ k = 7 ∨ k = 8 ∨ k = 9 ∨ k = 10 ∨ k = 11 := by omega
  rcases hk with rfl | rfl | rfl | rfl | rfl | rfl | rfl | rfl | rfl | rfl | rfl <;>
    simp [partL, numL, oneL, h0, h1, h2, h3, h4, h5] at hp ht he
  · obtain ⟨⟨⟨hr, hv⟩, ha⟩, hb⟩ := hp
    exact .inl ⟨r, v, by rw [none_eq ha, none_eq hb, ht, he], hr, hv⟩
  · obtain ⟨⟨⟨hr, hv⟩, ha⟩, hb⟩ := hp
    exact .inr (.inl ⟨v, a, by rw [hr, none_eq hb, ht, he], hv, ha⟩)
  · obtain ⟨⟨⟨hr, hv⟩, ha⟩, hb⟩ := hp
    exact .inr (.inr (.inl ⟨r, a, by rw [hv, none_eq hb, ht, he], hr, ha⟩))
  · obtain ⟨⟨⟨hr, hv⟩, ha⟩, hb⟩ := hp
    exact .inr (.inr (.inr (.inl (by rw [hr, hv, none_eq ha, none_eq hb, ht, he]))))
  · obtain ⟨⟨⟨hr, hv⟩, ha⟩, hb⟩ := hp
    exact .inr (.inr (.inr (.inr (.inl (by rw [hr, hv, none_eq ha, none_eq hb, ht, he])))))
  · obtain ⟨⟨⟨hr, hv⟩, ha⟩, hb⟩ := hp
    exact .inr (.inr (.inr (.inr (.inr (.inl ⟨r, v, a, b, by rw [ht, he], hr, hv, ha, hb⟩)))))
  · obtain ⟨⟨⟨hr, hv⟩, ha⟩, hb⟩ := hp
    exact .inr (.inr (.inr (.inr (.inr (.inr (.inl ⟨v, by rw [hr, none_eq ha, none_eq hb, ht, he], hv⟩))))))
  · obtain ⟨⟨⟨hr, hv⟩, ha⟩, hb⟩ := hp
    exact .inr (.inr (.inr (.inr (.inr (.inr (.inr (.inl ⟨v, by rw [hr, none_eq ha, none_eq hb, ht, he], hv⟩)))))))
  · obtain ⟨⟨⟨hr, hv⟩, ha⟩, hb⟩ := hp
    exact .inr (.inr (.inr (.inr (.inr (.inr (.inr (.inr (.inl ⟨a, by rw [hr, hv, none_eq hb, ht, he], ha⟩))))))))
  · obtain ⟨⟨⟨hr, hv⟩, ha⟩, hb⟩ := hp
    exact .inr (.inr (.inr (.inr (.inr (.inr (.inr (.inr (.inr (.inl ⟨a, t, e, by rw [hr, hv, none_eq hb], ha, hkt, hke⟩)))))))))
  · obtain ⟨⟨⟨hr, hv⟩, ha⟩, hb⟩ := hp
    exact .inr (.inr (.inr (.inr (.inr (.inr (.inr (.inr (.inr (.inr ⟨a, t, by rw [hr, hv, none_eq hb, he], ha, hkt⟩)))))))))

/-- A statement's first byte is no brace. -/
theorem stB_hd {q : Nat} (hq : q ≤ 3) {dom : Int} {d : Nat} {x : St} (h : okS q dom (d + 1) x = true) : ∃ c l, stB (nms q) x = c :: l ∧ c ≠ 125 := by
  rw [stB_eq]
  rcases okS_open h with ⟨r, v, rfl, hr, hv⟩ | ⟨v, a, rfl, hv, ha⟩ | ⟨r, a, rfl, hr, ha⟩ | rfl | rfl | ⟨r, v, a, b, rfl, hr, hv, ha, hb⟩ | ⟨v, rfl, hv⟩ | ⟨v, rfl, hv⟩ | ⟨a, rfl, ha⟩ | ⟨a, t, e, rfl, ha, ht, he⟩ | ⟨a, t, rfl, ha, ht⟩
  · exact ⟨114, _, rfl, by decide⟩
  · obtain ⟨c, e1, -, e3⟩ := nm_lit hq hv.1 hv.2
    refine ⟨c, [32, 61, 32] ++ a.txt ++ [59], ?_, by rcases e3 with rfl | rfl | rfl <;> decide⟩
    show nmB (nms q) v ++ [32, 61, 32] ++ a.txt ++ [59] = _
    rw [e1]
    simp
  · exact ⟨114, _, rfl, by decide⟩
  · exact ⟨102, _, rfl, by decide⟩
  · exact ⟨115, _, rfl, by decide⟩
  · exact ⟨114, _, rfl, by decide⟩
  · exact ⟨108, _, rfl, by decide⟩
  · exact ⟨117, _, rfl, by decide⟩
  · exact ⟨97, _, rfl, by decide⟩
  · exact ⟨105, _, rfl, by decide⟩
  · exact ⟨119, _, rfl, by decide⟩

theorem rdS_ok {q : Nat} (hq : q ≤ 3) {dom : Int} (hdom : dom ≤ 4) : ∀ f : Nat,
    (∀ d x R, szS x ≤ f → okS q dom d x = true → rdS f (stB (nms q) x ++ 10 :: R) = (x, 10 :: R)) ∧
    (∀ d l R, szL l + 1 ≤ f → okL q dom d l = true → rdL f (lnsB (nms q) l ++ 125 :: R) = (l, R)) := by
  intro f
  induction f with
  | zero => exact ⟨fun d x R h => by rw [szS_eq] at h; omega, fun d l R h => by omega⟩
  | succ f ih =>
    obtain ⟨ih1, ih2⟩ := ih
    constructor
    · intro d x R hs hok
      cases d with
      | zero => unfold okS at hok; cases hok
      | succ d =>
      have hE : ∀ (a : Ex) (S : List UInt8), a.fit dom 20 = true → rdE 20 (a.txt ++ S) = (a, S) := fun a S h => rdE_ok hdom 20 a S h
      rw [szS_eq] at hs
      rw [stB_eq]
      rcases okS_open hok with ⟨r, v, rfl, hr, hv⟩ | ⟨v, a, rfl, hv, ha⟩ | ⟨r, a, rfl, hr, ha⟩ | rfl | rfl | ⟨r, v, a, b, rfl, hr, hv, ha, hb⟩ | ⟨v, rfl, hv⟩ | ⟨v, rfl, hv⟩ | ⟨a, rfl, ha⟩ | ⟨a, t, e, rfl, ha, ht, he⟩ | ⟨a, t, rfl, ha, ht⟩
      · obtain ⟨c, e1, e2, e3⟩ := dig_lit hr.1 (by omega)
        obtain ⟨c', f1, f2, f3⟩ := nm_lit hq hv.1 hv.2
        show rdS (f + 1) (toB r ++ nmB (nms q) v ++ [59] ++ 10 :: R) = _
        unfold toB
        rw [e1, f1]
        rcases f3 with rfl | rfl | rfl <;> simp [rdS, hd, e2, f2]
      · obtain ⟨c', f1, f2, f3⟩ := nm_lit hq hv.1 hv.2
        show rdS (f + 1) (nmB (nms q) v ++ [32, 61, 32] ++ a.txt ++ [59] ++ 10 :: R) = _
        rw [f1]
        rcases f3 with rfl | rfl | rfl <;> simp [rdS, hd, f2, hE a _ ha]
      · obtain ⟨c, e1, e2, e3⟩ := dig_lit hr.1 (by omega)
        show rdS (f + 1) (toB r ++ a.txt ++ [59] ++ 10 :: R) = _
        unfold toB
        rw [e1]
        have hx : ∃ c0 l, a.txt = c0 :: l ∧ ¬ 120 ≤ c0.toNat ∧ c0 ≠ 99 := txt_hd hdom ha
        obtain ⟨c0, l, g1, g2, g3⟩ := hx
        have hEa := hE a (59 :: 10 :: R) ha
        rw [g1] at hEa ⊢
        simp only [List.cons_append] at hEa
        simp [rdS, hd, e2, g3, hEa, show ¬ 120 ≤ c0.toNat from g2]
      · rfl
      · rfl
      · obtain ⟨c, e1, e2, e3⟩ := dig_lit hr.1 (by omega)
        obtain ⟨c', f1, f2, f3⟩ := nm_lit hq hv.1 hv.2
        show rdS (f + 1) (toB r ++ [99, 97, 115, 40] ++ nmB (nms q) v ++ [44, 32] ++ a.txt ++ [44, 32] ++ b.txt ++ [41, 59] ++ 10 :: R) = _
        unfold toB
        rw [e1, f1]
        simp [rdS, hd, e2, f2, hE a _ ha, hE b _ hb]
      · obtain ⟨c', f1, f2, f3⟩ := nm_lit hq hv.1 hv.2
        show rdS (f + 1) ([108, 111, 99, 107, 32] ++ nmB (nms q) v ++ [59] ++ 10 :: R) = _
        rw [f1]
        simp [rdS, hd, f2]
      · obtain ⟨c', f1, f2, f3⟩ := nm_lit hq hv.1 hv.2
        show rdS (f + 1) ([117, 110, 108, 111, 99, 107, 32] ++ nmB (nms q) v ++ [59] ++ 10 :: R) = _
        rw [f1]
        simp [rdS, hd, f2]
      · show rdS (f + 1) ([97, 115, 115, 101, 114, 116, 32] ++ a.txt ++ [59] ++ 10 :: R) = _
        simp [rdS, hd, hE a _ ha]
      · have h1 : ∀ S, rdL f (lnsB (nms q) t ++ 125 :: S) = (t, S) := fun S => ih2 d t S (by simp only [St.t, St.e] at hs; omega) ht
        have h2 : ∀ S, rdL f (lnsB (nms q) e ++ 125 :: S) = (e, S) := fun S => ih2 d e S (by simp only [St.t, St.e] at hs; omega) he
        cases e with
        | nil =>
          show rdS (f + 1) ([105, 102, 32] ++ a.txt ++ [32] ++ blkB (nms q) t ++ [] ++ 10 :: R) = _
          unfold blkB
          simp [rdS, hd, hE a _ ha, h1]
        | cons y e =>
          show rdS (f + 1) ([105, 102, 32] ++ a.txt ++ [32] ++ blkB (nms q) t ++ ([32, 101, 108, 115, 101, 32] ++ blkB (nms q) (y :: e)) ++ 10 :: R) = _
          unfold blkB
          simp [rdS, hd, hE a _ ha, h1, h2]
      · have h1 : ∀ S, rdL f (lnsB (nms q) t ++ 125 :: S) = (t, S) := fun S => ih2 d t S (by simp only [St.t, St.e] at hs; omega) ht
        show rdS (f + 1) ([119, 104, 105, 108, 101, 32] ++ a.txt ++ [32] ++ blkB (nms q) t ++ 10 :: R) = _
        unfold blkB
        simp [rdS, hd, hE a _ ha, h1]
    · intro d l R hs hok
      cases l with
      | nil => rfl
      | cons x l =>
        rw [szL_cons] at hs
        unfold okL at hok
        simp only [List.all_cons, Bool.and_eq_true] at hok
        obtain ⟨hx, hl⟩ := hok
        cases d with
        | zero => unfold okS at hx; cases hx
        | succ d =>
        obtain ⟨c, m, e1, e2⟩ := stB_hd hq hx
        have g1 := ih1 (d + 1) x (lnsB (nms q) l ++ 125 :: R) (by omega) hx
        have g2 := ih2 (d + 1) l R (by omega) hl
        rw [lnsB_cons]
        rw [e1] at g1 ⊢
        simp only [List.cons_append, List.append_assoc, List.nil_append] at g1 ⊢
        unfold rdL
        rw [if_neg (by exact e2), g1]
        simp only [List.drop_succ_cons, List.drop_zero]
        rw [g2]
end Go.Proofs.YtphlbbnmligadaaGreatDoor
namespace Go.Proofs.YtphlbbnmligadaaGreatDoor
open Go.RowKit

def vsC (vs : List ByteArray) : List UInt8 := vs.foldl (fun acc s => acc ++ ([32] ++ sB s)) []
def tsC (vs : List ByteArray) (t : List (List St)) : List UInt8 := t.foldl (fun acc l => acc ++ ([116, 104, 114, 101, 97, 100, 32] ++ blkB vs l ++ [10])) []
theorem prB_at (p : Pg) : prB p = [118, 97, 114, 115] ++ vsC p.vars ++ ([59, 10, 100, 111, 109, 97, 105, 110, 32] ++ digB p.dom ++ [59, 10]) ++ tsC p.vars p.ths := rfl
theorem tsC_cons (vs : List ByteArray) (l : List St) (t : List (List St)) : tsC vs (l :: t) = [116, 104, 114, 101, 97, 100, 32] ++ blkB vs l ++ [10] ++ tsC vs t := by
  have h : ∀ (t : List (List St)) (acc : List UInt8), t.foldl (fun acc l => acc ++ ([116, 104, 114, 101, 97, 100, 32] ++ blkB vs l ++ [10])) acc = acc ++ tsC vs t := by
    intro t
    induction t with
    | nil => intro acc; simp [tsC]
    | cons y l ih =>
      intro acc
      unfold tsC
      rw [List.foldl_cons, List.foldl_cons, ih, ih]
      simp
  unfold tsC
  rw [List.foldl_cons, h]
  simp [tsC]

/-- Threads are read. -/
def rdT (F : Nat) : Nat → List UInt8 → List (List St)
  | 0, _ => []
  | n + 1, s => if s = [] then [] else (rdL F (s.drop 9)).1 :: rdT F n ((rdL F (s.drop 9)).2.drop 1)
def szT (t : List (List St)) : Nat := (t.map szL).sum
theorem szT_mem {t : List (List St)} {l : List St} (h : l ∈ t) : szL l ≤ szT t := by
  unfold szT
  induction t with
  | nil => cases h
  | cons y t ih =>
    rw [List.map_cons, List.sum_cons]
    rcases List.mem_cons.1 h with rfl | h
    · omega
    · have := ih h; omega
theorem rdT_ok {q : Nat} (hq : q ≤ 3) {dom : Int} (hdom : dom ≤ 4) (F : Nat) : ∀ (t : List (List St)) (n : Nat), t.length < n → (∀ l ∈ t, okL q dom 20 l = true) → (∀ l ∈ t, szL l + 1 ≤ F) → rdT F n (tsC (nms q) t) = t
  | [], 0, h, _, _ => by simp at h
  | [], n + 1, _, _, _ => rfl
  | l :: t, 0, h, _, _ => by simp at h
  | l :: t, n + 1, h, h1, h2 => by
    have ih := rdT_ok hq hdom F t n (by simpa using h) (fun x hx => h1 x (by simp [hx])) (fun x hx => h2 x (by simp [hx]))
    have hl := (rdS_ok hq hdom F).2 20 l (10 :: tsC (nms q) t) (h2 l (by simp)) (h1 l (by simp))
    rw [tsC_cons]
    unfold blkB rdT
    rw [if_neg (by simp)]
    have e : ([116, 104, 114, 101, 97, 100, 32] ++ ([123, 10] ++ lnsB (nms q) l ++ [125]) ++ [10] ++ tsC (nms q) t).drop 9 = lnsB (nms q) l ++ 125 :: 10 :: tsC (nms q) t := by simp
    rw [e, hl]
    simp only [List.drop_succ_cons, List.drop_zero]
    rw [ih]

/-- Unlike programs have unlike texts. -/
theorem prB_inj {p p' : Pg} {q q' : Nat} (hv : p.vars = nms q) (hv' : p'.vars = nms q') (h1 : 1 ≤ q) (h3 : q ≤ 3) (h1' : 1 ≤ q') (h3' : q' ≤ 3) (d2 : 2 ≤ p.dom) (d4 : p.dom ≤ 4) (d2' : 2 ≤ p'.dom) (d4' : p'.dom ≤ 4)
    (hk : ∀ l ∈ p.ths, okL q p.dom 20 l = true) (hk' : ∀ l ∈ p'.ths, okL q' p'.dom 20 l = true) (h : prB p = prB p') : p = p' := by
  obtain ⟨vs, dom, t⟩ := p
  obtain ⟨vs', dom', t'⟩ := p'
  simp only at hv hv' d2 d4 d2' d4' hk hk'
  subst hv hv'
  rw [prB_at, prB_at] at h
  simp only at h
  obtain ⟨c, e1, e2, -⟩ := dig_lit (n := dom) (by omega) (by omega)
  obtain ⟨c', e1', e2', -⟩ := dig_lit (n := dom') (by omega) (by omega)
  rw [e1, e1'] at h
  have key : q = q' ∧ c = c' ∧ tsC (nms q) t = tsC (nms q') t' := by
    have hq : q = 1 ∨ q = 2 ∨ q = 3 := by omega
    have hq' : q' = 1 ∨ q' = 2 ∨ q' = 3 := by omega
    have v1 : vsC (nms 1) = [32, 120] := rfl
    have v2 : vsC (nms 2) = [32, 120, 32, 121] := rfl
    have v3 : vsC (nms 3) = [32, 120, 32, 121, 32, 122] := rfl
    rcases hq with rfl | rfl | rfl <;> rcases hq' with rfl | rfl | rfl <;> simp [v1, v2, v3] at h ⊢ <;> exact h
  obtain ⟨rfl, rfl, hts⟩ := key
  obtain rfl : dom = dom' := e2.symm.trans e2'
  have g1 := rdT_ok h3 d4 (szT t + szT t' + 1) t (t.length + t'.length + 1) (by omega) hk (fun l hl => by have := szT_mem hl; omega)
  have g2 := rdT_ok h3 d4 (szT t + szT t' + 1) t' (t.length + t'.length + 1) (by omega) hk' (fun l hl => by have := szT_mem hl; omega)
  rw [hts, g2] at g1
  rw [g1]

/-- A text is tokens, so many at least. -/
def Lxs (k : Nat) (s : List UInt8) : Prop := ∀ f i, s.length < f → (lexF f s i).2 = none ∧ k ≤ (lexF f s i).1.length
namespace Lxs
theorem mono {j k : Nat} {s : List UInt8} (h : Lxs k s) (hj : j ≤ k) : Lxs j s := fun f i hf => ⟨(h f i hf).1, Nat.le_trans hj (h f i hf).2⟩
theorem nil : Lxs 1 [] := fun f i hf => by
  cases f with
  | zero => simp at hf
  | succ f => exact ⟨rfl, Nat.le_refl _⟩
theorem blank {k : Nat} {c : UInt8} {s : List UInt8} (hc : blankB c = true) (h : Lxs k s) : Lxs k (c :: s) := fun f i hf => by
  cases f with
  | zero => simp at hf
  | succ f =>
    have e : lexF (f + 1) (c :: s) i = lexF (f + 1) s (i + 1) := by
      simp only [lexF, runP_cons_pos hc, List.drop_succ_cons]
      rw [show i + (runP blankB s + 1) = i + 1 + runP blankB s from by omega]
    rw [e]
    exact h (f + 1) (i + 1) (by simp at hf; omega)
theorem tok {k n : Nat} {k0 v : Int} {c : UInt8} {s : List UInt8} (hh : headT (c :: s) = some (k0, n, v)) (h : Lxs k ((c :: s).drop n)) : Lxs (k + 1) (c :: s) := fun f i hf => by
  cases f with
  | zero => simp at hf
  | succ f =>
    have h1 := headT_len hh
    have h2 := h f (i + 0 + n) (by simp at hf h1 ⊢; omega)
    simp only [lexF, runP_cons_neg (headT_blank hh), List.drop_zero, hh]
    exact ⟨h2.1, by simp only [List.length_cons]; have := h2.2; omega⟩
end Lxs
theorem runP_word {p : UInt8 → Bool} {d : UInt8} {s : List UInt8} (hd : p d = false) : ∀ w : List UInt8, w.all p = true → runP p (w ++ d :: s) = w.length
  | [], _ => runP_cons_neg hd
  | c :: w, h => by
    simp only [List.all_cons, Bool.and_eq_true] at h
    rw [List.cons_append, runP_cons_pos h.1, runP_word hd w h.2, List.length_cons]
theorem lxW {k : Nat} (c : UInt8) (w : List UInt8) (d : UInt8) (s : List UInt8) (hc : letterB c = true) (hw : w.all partB = true) (hd : partB d = false) (h : Lxs k (d :: s)) : Lxs (k + 1) (c :: (w ++ d :: s)) := by
  have e : headT (c :: (w ++ d :: s)) = some (1, w.length + 1, 0) := by
    simp only [headT]
    rw [if_pos hc, runP_cons_pos (part_of_letter hc), runP_word hd w hw]
  refine Lxs.tok e ?_
  rw [List.drop_succ_cons, List.drop_left]
  exact h
theorem lxD {k : Nat} (c d : UInt8) (s : List UInt8) (hc : digitB c = true) (hl : letterB c = false) (hd : digitB d = false) (h : Lxs k (d :: s)) : Lxs (k + 1) (c :: d :: s) := by
  have e : headT (c :: d :: s) = some (2, 1, numLx [c]) := by
    simp only [headT]
    rw [if_neg (by simp [hl]), if_pos hc, runP_cons_pos hc, runP_cons_neg hd, if_neg (by omega)]
    rfl
  exact Lxs.tok e h
theorem lxS {k : Nat} (c : UInt8) (s : List UInt8) (hc : c = 40 ∨ c = 41 ∨ c = 123 ∨ c = 125 ∨ c = 59 ∨ c = 44 ∨ c = 43 ∨ c = 45 ∨ c = 42 ∨ c = 60 ∨ c = 38 ∨ c = 124) (h : Lxs k s) : Lxs (k + 1) (c :: s) := by
  have e : headT (c :: s) = some (3, 1, 0) := by
    rcases hc with rfl | rfl | rfl | rfl | rfl | rfl | rfl | rfl | rfl | rfl | rfl | rfl <;> rfl
  exact Lxs.tok e h
theorem lxE {k : Nat} (s : List UInt8) (h : Lxs k (32 :: s)) : Lxs (k + 1) (61 :: 32 :: s) := Lxs.tok (k0 := 3) (n := 1) (v := 0) rfl h
theorem lxO {k : Nat} {o : Int} (ho : isOp o = true) (s : List UInt8) (h : Lxs k (32 :: s)) : Lxs (k + 1) (sgn o ++ 32 :: s) := by
  rcases isOp_cases ho with rfl | rfl | rfl | rfl | rfl | rfl | rfl | rfl
  · exact lxS 43 _ (by simp) h
  · exact lxS 45 _ (by simp) h
  · exact lxS 42 _ (by simp) h
  · exact lxS 60 _ (by simp) h
  · exact lxS 38 _ (by simp) h
  · exact lxS 124 _ (by simp) h
  · exact Lxs.tok (k0 := 3) (n := 2) (v := 0) rfl h
  · exact Lxs.tok (k0 := 3) (n := 2) (v := 0) rfl h

theorem dig_class {c : UInt8} (h : c = 48 ∨ c = 49 ∨ c = 50 ∨ c = 51 ∨ c = 52) : digitB c = true ∧ letterB c = false ∧ partB c = true := by
  rcases h with rfl | rfl | rfl | rfl | rfl <;> decide
theorem dig_of_part {d : UInt8} (h : partB d = false) : digitB d = false := by
  unfold partB at h
  rw [Bool.or_eq_false_iff] at h
  exact h.2
/-- An expression's text is tokens. -/
theorem lxX {dom : Int} (hdom : dom ≤ 4) : ∀ (d : Nat) (x : Ex) (k : Nat) (e : UInt8) (s : List UInt8), x.fit dom d = true → partB e = false → Lxs k (e :: s) → Lxs k (x.txt ++ e :: s)
  | 0, x, k, e, s, h, _, _ => by unfold Ex.fit at h; cases h
  | d + 1, .mk k0 n o l, k, e, s, h, he, hs => by
    rcases Ex.fit_open h with ⟨rfl, h0, h1, rfl, rfl⟩ | ⟨rfl, h0, h1, rfl, rfl⟩ | ⟨rfl, rfl, ho, x, y, rfl, hx, hy⟩
    · rw [Ex.txt_num]
      obtain ⟨c, e1, e2, e3⟩ := dig_lit h0 (by omega)
      obtain ⟨c1, c2, c3⟩ := dig_class e3
      rw [e1]
      exact (lxD c e s c1 c2 (dig_of_part he) hs).mono (by omega)
    · rw [Ex.txt_reg]
      obtain ⟨c, e1, e2, e3⟩ := dig_lit h0 (by omega)
      obtain ⟨c1, c2, c3⟩ := dig_class e3
      rw [e1]
      exact (lxW 114 [c] e s (by decide) (by simp [c3]) he hs).mono (by omega)
    · rw [Ex.txt_two]
      have h1 : Lxs k (41 :: e :: s) := (lxS 41 _ (by simp) hs).mono (by omega)
      have h2 := lxX hdom d y k 41 (e :: s) hy (by decide) h1
      have h3 : Lxs k (32 :: (y.txt ++ 41 :: e :: s)) := Lxs.blank (by decide) h2
      have h4 := (lxO ho _ h3).mono (Nat.le_succ k)
      have h5 : Lxs k (32 :: (sgn o ++ 32 :: (y.txt ++ 41 :: e :: s))) := Lxs.blank (by decide) h4
      have h6 := lxX hdom d x k 32 _ hx (by decide) h5
      have h7 := (lxS 40 _ (by simp) h6).mono (Nat.le_succ k)
      simpa using h7
theorem nm_class {c : UInt8} (h : c = 120 ∨ c = 121 ∨ c = 122) : letterB c = true := by
  rcases h with rfl | rfl | rfl <;> decide
/-- A name's token. -/
theorem lxV {k : Nat} {c : UInt8} (h : c = 120 ∨ c = 121 ∨ c = 122) (d : UInt8) (s : List UInt8) (hd : partB d = false) (hs : Lxs k (d :: s)) : Lxs k (c :: d :: s) :=
  (lxW c [] d s (nm_class h) rfl hd hs).mono (Nat.le_succ k)
theorem lxR {k : Nat} {c : UInt8} (h : c = 48 ∨ c = 49 ∨ c = 50 ∨ c = 51 ∨ c = 52) (s : List UInt8) (hs : Lxs k s) : Lxs k (114 :: c :: 32 :: 61 :: 32 :: s) :=
  (lxW 114 [c] 32 _ (by decide) (by simp [(dig_class h).2.2]) (by decide) (Lxs.blank (by decide) ((lxE s (Lxs.blank (by decide) hs)).mono (Nat.le_succ k)))).mono (Nat.le_succ k)

/-- Statements are tokens. -/
theorem lxL {q : Nat} {dom : Int} : ∀ (l : List St), (∀ x ∈ l, ∀ d R k, okS q dom d x = true → Lxs k R → Lxs k (stB (nms q) x ++ 10 :: R)) → ∀ d R k, okL q dom d l = true → Lxs k R → Lxs k (lnsB (nms q) l ++ R)
  | [], _, _, R, k, _, hR => by simpa [lnsB] using hR
  | x :: l, h, d, R, k, hok, hR => by
    unfold okL at hok
    simp only [List.all_cons, Bool.and_eq_true] at hok
    have ih := lxL l (fun y hy => h y (by simp [hy])) d R k hok.2 hR
    have hx := h x (by simp) d (lnsB (nms q) l ++ R) k hok.1 ih
    rw [lnsB_cons]
    simpa using hx
theorem lxBk {q : Nat} {dom : Int} {l : List St} (h : ∀ x ∈ l, ∀ d R k, okS q dom d x = true → Lxs k R → Lxs k (stB (nms q) x ++ 10 :: R)) {d : Nat} {R : List UInt8} {k : Nat} (hok : okL q dom d l = true) (hR : Lxs k R) : Lxs k (blkB (nms q) l ++ R) := by
  have h1 : Lxs k (125 :: R) := (lxS 125 _ (by simp) hR).mono (Nat.le_succ k)
  have h2 := lxL l h d (125 :: R) k hok h1
  have h3 : Lxs k (10 :: (lnsB (nms q) l ++ 125 :: R)) := Lxs.blank (by decide) h2
  have h4 := (lxS 123 _ (by simp) h3).mono (Nat.le_succ k)
  unfold blkB
  simpa using h4
theorem lx_st {q : Nat} (hq : q ≤ 3) {dom : Int} (hdom : dom ≤ 4) : ∀ (x : St) (d : Nat) (R : List UInt8) (k : Nat), okS q dom d x = true → Lxs k R → Lxs k (stB (nms q) x ++ 10 :: R) := by
  intro x
  induction x using St.ind with
  | h k0 r0 v0 a0 b0 t0 e0 iht ihe =>
    intro d R k hok hR
    cases d with
    | zero => unfold okS at hok; cases hok
    | succ d =>
    have hN : Lxs k (10 :: R) := Lxs.blank (by decide) hR
    have hS : Lxs k (59 :: 10 :: R) := (lxS 59 _ (by simp) hN).mono (Nat.le_succ k)
    have X := fun (a : Ex) (e : UInt8) (s : List UInt8) (ha : a.fit dom 20 = true) (he : partB e = false) (hs : Lxs k (e :: s)) => lxX hdom 20 a k e s ha he hs
    rw [stB_eq]
    rcases okS_open hok with ⟨r, v, e, hr, hv⟩ | ⟨v, a, e, hv, ha⟩ | ⟨r, a, e, hr, ha⟩ | e | e | ⟨r, v, a, b, e, hr, hv, ha, hb⟩ | ⟨v, e, hv⟩ | ⟨v, e, hv⟩ | ⟨a, e, ha⟩ | ⟨a, t, e', e, ha, ht, he⟩ | ⟨a, t, e, ha, ht⟩
    all_goals
      injection e with f1 f2 f3 f4 f5 f6 f7
      subst f1 f2 f3 f4 f5 f6 f7
    · obtain ⟨c, e1, e2, e3⟩ := dig_lit hr.1 (by omega)
      obtain ⟨c', f1, f2, f3⟩ := nm_lit hq hv.1 hv.2
      show Lxs k (toB r0 ++ nmB (nms q) v0 ++ [59] ++ 10 :: R)
      unfold toB
      rw [e1, f1]
      simpa using lxR e3 _ (lxV f3 59 _ (by decide) hS)
    · obtain ⟨c', f1, f2, f3⟩ := nm_lit hq hv.1 hv.2
      show Lxs k (nmB (nms q) v0 ++ [32, 61, 32] ++ a0.txt ++ [59] ++ 10 :: R)
      rw [f1]
      have h1 := X _ 59 _ ha (by decide) hS
      simpa using lxV f3 32 _ (by decide) (Lxs.blank (by decide) ((lxE _ (Lxs.blank (by decide) h1)).mono (Nat.le_succ k)))
    · obtain ⟨c, e1, e2, e3⟩ := dig_lit hr.1 (by omega)
      show Lxs k (toB r0 ++ a0.txt ++ [59] ++ 10 :: R)
      unfold toB
      rw [e1]
      have h1 := X _ 59 _ ha (by decide) hS
      simpa using lxR e3 _ h1
    · exact (lxW 102 [101, 110, 99, 101] 59 _ (by decide) (by decide) (by decide) hS).mono (Nat.le_succ k)
    · exact (lxW 115 [102, 101, 110, 99, 101] 59 _ (by decide) (by decide) (by decide) hS).mono (Nat.le_succ k)
    · obtain ⟨c, e1, e2, e3⟩ := dig_lit hr.1 (by omega)
      obtain ⟨c', f1, f2, f3⟩ := nm_lit hq hv.1 hv.2
      show Lxs k (toB r0 ++ [99, 97, 115, 40] ++ nmB (nms q) v0 ++ [44, 32] ++ a0.txt ++ [44, 32] ++ b0.txt ++ [41, 59] ++ 10 :: R)
      unfold toB
      rw [e1, f1]
      have h1 := X _ 41 _ hb (by decide) ((lxS 41 _ (by simp) hS).mono (Nat.le_succ k))
      have h2 := X _ 44 _ ha (by decide) ((lxS 44 _ (by simp) (Lxs.blank (c := 32) (by decide) h1)).mono (Nat.le_succ k))
      have h3 := lxV f3 44 _ (by decide) ((lxS 44 _ (by simp) (Lxs.blank (c := 32) (by decide) h2)).mono (Nat.le_succ k))
      have h4 := (lxW 99 [97, 115] 40 _ (by decide) (by decide) (by decide) ((lxS 40 _ (by simp) h3).mono (Nat.le_succ k))).mono (Nat.le_succ k)
      simpa using lxR e3 _ h4
    · obtain ⟨c', f1, f2, f3⟩ := nm_lit hq hv.1 hv.2
      show Lxs k ([108, 111, 99, 107, 32] ++ nmB (nms q) v0 ++ [59] ++ 10 :: R)
      rw [f1]
      exact (lxW 108 [111, 99, 107] 32 _ (by decide) (by decide) (by decide) (Lxs.blank (by decide) (lxV f3 59 _ (by decide) hS))).mono (Nat.le_succ k)
    · obtain ⟨c', f1, f2, f3⟩ := nm_lit hq hv.1 hv.2
      show Lxs k ([117, 110, 108, 111, 99, 107, 32] ++ nmB (nms q) v0 ++ [59] ++ 10 :: R)
      rw [f1]
      exact (lxW 117 [110, 108, 111, 99, 107] 32 _ (by decide) (by decide) (by decide) (Lxs.blank (by decide) (lxV f3 59 _ (by decide) hS))).mono (Nat.le_succ k)
    · show Lxs k ([97, 115, 115, 101, 114, 116, 32] ++ a0.txt ++ [59] ++ 10 :: R)
      have h1 := X _ 59 _ ha (by decide) hS
      simpa using (lxW 97 [115, 115, 101, 114, 116] 32 _ (by decide) (by decide) (by decide) (Lxs.blank (by decide) h1)).mono (Nat.le_succ k)
    · have hE : Lxs k ((if decide (e0.length ≠ 0) = true then [32, 101, 108, 115, 101, 32] ++ blkB (nms q) e0 else []) ++ 10 :: R) := by
        cases hd : decide (e0.length ≠ 0)
        · exact hN
        · have h1 := lxBk ihe he hN
          have h2 := (lxW 101 [108, 115, 101] 32 _ (by decide) (by decide) (by decide) (Lxs.blank (c := 32) (by decide) h1)).mono (Nat.le_succ k)
          simpa using Lxs.blank (c := 32) (by decide) h2
      have h1 := lxBk iht ht hE
      have h2 := X _ 32 _ ha (by decide) (Lxs.blank (c := 32) (by decide) h1)
      have h3 := (lxW 105 [102] 32 _ (by decide) (by decide) (by decide) (Lxs.blank (by decide) h2)).mono (Nat.le_succ k)
      show Lxs k ([105, 102, 32] ++ a0.txt ++ [32] ++ blkB (nms q) t0 ++ (if decide (e0.length ≠ 0) = true then [32, 101, 108, 115, 101, 32] ++ blkB (nms q) e0 else []) ++ 10 :: R)
      generalize (if decide (e0.length ≠ 0) = true then [32, 101, 108, 115, 101, 32] ++ blkB (nms q) e0 else []) = Z at *
      simpa using h3
    · have h1 := lxBk iht ht hN
      have h2 := X _ 32 _ ha (by decide) (Lxs.blank (c := 32) (by decide) h1)
      have h3 := (lxW 119 [104, 105, 108, 101] 32 _ (by decide) (by decide) (by decide) (Lxs.blank (by decide) h2)).mono (Nat.le_succ k)
      show Lxs k ([119, 104, 105, 108, 101, 32] ++ a0.txt ++ [32] ++ blkB (nms q) t0 ++ 10 :: R)
      simpa using h3
/-- Threads are tokens. -/
theorem lxTs {q : Nat} (hq : q ≤ 3) {dom : Int} (hdom : dom ≤ 4) : ∀ (t : List (List St)), (∀ l ∈ t, okL q dom 20 l = true) → Lxs 1 (tsC (nms q) t)
  | [], _ => Lxs.nil
  | l :: t, h => by
    have ih := lxTs hq hdom t fun x hx => h x (by simp [hx])
    have h1 := lxBk (fun x _ => lx_st hq hdom x) (h l (by simp)) (Lxs.blank (c := 10) (by decide) ih)
    have h2 := (lxW 116 [104, 114, 101, 97, 100] 32 _ (by decide) (by decide) (by decide) (Lxs.blank (by decide) h1)).mono (Nat.le_succ 1)
    rw [tsC_cons]
    simpa using h2
/-- The first thread's tokens are counted. -/
theorem lxTs1 {q : Nat} (hq : q ≤ 3) {dom : Int} (hdom : dom ≤ 4) {t : List (List St)} (ht : 1 ≤ t.length) (h : ∀ l ∈ t, okL q dom 20 l = true) : Lxs 4 (tsC (nms q) t) := by
  cases t with
  | nil => simp at ht
  | cons l t =>
    have ih := lxTs hq hdom t fun x hx => h x (by simp [hx])
    have h1 : Lxs 2 (125 :: 10 :: tsC (nms q) t) := lxS 125 _ (by simp) (Lxs.blank (c := 10) (by decide) ih)
    have h2 := lxL l (fun x _ => lx_st hq hdom x) 20 _ 2 (h l (by simp)) h1
    have h3 : Lxs 3 (123 :: 10 :: (lnsB (nms q) l ++ 125 :: 10 :: tsC (nms q) t)) := lxS 123 _ (by simp) (Lxs.blank (c := 10) (by decide) h2)
    have h4 := lxW 116 [104, 114, 101, 97, 100] 32 _ (by decide) (by decide) (by decide) (Lxs.blank (c := 32) (by decide) h3)
    rw [tsC_cons]
    unfold blkB
    simpa using h4
/-- A program's text is tokens, more than eight. -/
theorem prB_lex {p : Pg} {q : Nat} (hv : p.vars = nms q) (h1 : 1 ≤ q) (h3 : q ≤ 3) (d2 : 2 ≤ p.dom) (d4 : p.dom ≤ 4) (ht : 1 ≤ p.ths.length) (hk : ∀ l ∈ p.ths, okL q p.dom 20 l = true) : Lxs 9 (prB p) := by
  rw [prB_at, hv]
  obtain ⟨c, e1, -, e3⟩ := dig_lit (n := p.dom) (by omega) (by omega)
  obtain ⟨c1, c2, -⟩ := dig_class e3
  rw [e1]
  have g1 : Lxs 4 (10 :: tsC (nms q) p.ths) := Lxs.blank (by decide) (lxTs1 h3 d4 ht hk)
  have g2 : Lxs 5 (59 :: 10 :: tsC (nms q) p.ths) := lxS 59 _ (by simp) g1
  have g3 : Lxs 6 (32 :: c :: 59 :: 10 :: tsC (nms q) p.ths) := Lxs.blank (by decide) (lxD c 59 _ c1 c2 (by decide) g2)
  have g4 : Lxs 7 (10 :: 100 :: ([111, 109, 97, 105, 110] ++ 32 :: c :: 59 :: 10 :: tsC (nms q) p.ths)) := Lxs.blank (by decide) (lxW 100 [111, 109, 97, 105, 110] 32 _ (by decide) (by decide) (by decide) g3)
  have g5 : Lxs 8 (59 :: 10 :: 100 :: ([111, 109, 97, 105, 110] ++ 32 :: c :: 59 :: 10 :: tsC (nms q) p.ths)) := lxS 59 _ (by simp) g4
  have hq : q = 1 ∨ q = 2 ∨ q = 3 := by omega
  have v1 : vsC (nms 1) = [32, 120] := rfl
  have v2 : vsC (nms 2) = [32, 120, 32, 121] := rfl
  have v3 : vsC (nms 3) = [32, 120, 32, 121, 32, 122] := rfl
  have W : ∀ {s : List UInt8} {d : UInt8}, d = 32 ∨ d = 59 → Lxs 8 (d :: s) → ∀ e : UInt8, (e = 120 ∨ e = 121 ∨ e = 122) → Lxs 8 (32 :: e :: d :: s) := fun hd h e he => Lxs.blank (by decide) (lxV he _ _ (by rcases hd with rfl | rfl <;> decide) h)
  have fin : ∀ s : List UInt8, Lxs 8 (32 :: s) → Lxs 9 (118 :: ([97, 114, 115] ++ 32 :: s)) := fun s h => lxW 118 [97, 114, 115] 32 s (by decide) (by decide) (by decide) h
  rcases hq with rfl | rfl | rfl
  · rw [v1]
    simpa using fin _ (W (.inr rfl) g5 120 (by simp))
  · rw [v2]
    simpa using fin _ (W (.inl rfl) (W (.inr rfl) g5 121 (by simp)) 120 (by simp))
  · rw [v3]
    simpa using fin _ (W (.inl rfl) (W (.inl rfl) (W (.inr rfl) g5 122 (by simp)) 121 (by simp)) 120 (by simp))
end Go.Proofs.YtphlbbnmligadaaGreatDoor
namespace Go.Proofs.YtphlbbnmligadaaGreatDoor
open Go.RowKit

theorem dig1 {n : Int} (h0 : 0 ≤ n) (h1 : n < 5) : (digB n).length = 1 := by
  obtain ⟨c, e, -⟩ := dig_lit h0 h1
  rw [e]; rfl
theorem leaf_len {dom : Int} (hdom : dom ≤ 4) {d : Nat} {x : Ex} (h : x.fit dom d = true) (hk : x.kids.isEmpty = true) : x.txt.length ≤ 2 := by
  cases d with
  | zero => unfold Ex.fit at h; cases h
  | succ d =>
    obtain ⟨k, n, o, l⟩ := x
    rcases Ex.fit_open h with ⟨rfl, h0, h1, rfl, rfl⟩ | ⟨rfl, h0, h1, rfl, rfl⟩ | ⟨rfl, rfl, ho, x, y, rfl, hx, hy⟩
    · rw [Ex.txt_num, dig1 h0 (by omega)]; omega
    · rw [Ex.txt_reg, List.length_cons, dig1 h0 (by omega)]; omega
    · simp [Ex.kids] at hk
theorem sh_len {dom : Int} (hdom : dom ≤ 4) {d : Nat} {x : Ex} (h : x.fit dom d = true) (hs : x.sh = true) : x.txt.length ≤ 10 := by
  cases d with
  | zero => unfold Ex.fit at h; cases h
  | succ d =>
    obtain ⟨k, n, o, l⟩ := x
    rcases Ex.fit_open h with ⟨rfl, h0, h1, rfl, rfl⟩ | ⟨rfl, h0, h1, rfl, rfl⟩ | ⟨rfl, rfl, ho, x, y, rfl, hx, hy⟩
    · rw [Ex.txt_num, dig1 h0 (by omega)]; omega
    · rw [Ex.txt_reg, List.length_cons, dig1 h0 (by omega)]; omega
    · have hs' : x.kids.isEmpty = true ∧ y.kids.isEmpty = true := by
        have : ([x, y].all fun y => y.kids.isEmpty) = true := hs
        simpa using this
      have h1 := leaf_len hdom hx hs'.1
      have h2 := leaf_len hdom hy hs'.2
      have h3 := sgn_len o
      rw [Ex.txt_two]
      simp only [List.length_append, List.length_cons, List.length_nil]
      omega
theorem lnsB_shl {vs : List ByteArray} : ∀ (l : List St), (∀ x ∈ l, (stB vs x).length + 1 ≤ 40 * cntS x) → (lnsB vs l).length ≤ 40 * cntL l
  | [], _ => by simp [lnsB, cntL]
  | x :: l, h => by
    have ih := lnsB_shl l fun y hy => h y (by simp [hy])
    have hx := h x (by simp)
    rw [lnsB_cons]
    unfold cntL at ih ⊢
    simp only [List.length_append, List.length_cons, List.length_nil, List.map_cons, List.sum_cons]
    omega
theorem okL_mem {q : Int} {dom : Int} {d : Nat} {l : List St} (h : okL q dom d l = true) : ∀ x ∈ l, okS q dom d x = true := by
  unfold okL at h
  exact List.all_eq_true.1 h
theorem stB_shl {q : Nat} (hq : q ≤ 3) {dom : Int} (hdom : dom ≤ 4) : ∀ (x : St) (d : Nat), okS q dom d x = true → shS x = true → (stB (nms q) x).length + 1 ≤ 40 * cntS x := by
  intro x
  induction x using St.ind with
  | h k0 r0 v0 a0 b0 t0 e0 iht ihe =>
    intro d hok hsh
    cases d with
    | zero => unfold okS at hok; cases hok
    | succ d =>
    rw [shS_mk] at hsh
    simp only [Bool.and_eq_true] at hsh
    obtain ⟨⟨⟨hsa, hsb⟩, hst⟩, hse⟩ := hsh
    have hT : okL q dom d t0 = true → (lnsB (nms q) t0).length ≤ 40 * cntL t0 := fun ht => lnsB_shl t0 fun y hy => iht y hy d (okL_mem ht y hy) (shL_mem hst y hy)
    have hEE : okL q dom d e0 = true → (lnsB (nms q) e0).length ≤ 40 * cntL e0 := fun ht => lnsB_shl e0 fun y hy => ihe y hy d (okL_mem ht y hy) (shL_mem hse y hy)
    have nm : ∀ v : Int, 0 ≤ v → v < (q : Int) → (nmB (nms q) v).length = 1 := fun v h0 h1 => by
      obtain ⟨c, e, -⟩ := nm_lit hq h0 h1
      rw [e]; rfl
    have rg : ∀ r : Int, 0 ≤ r → r < 4 → (toB r).length = 5 := fun r h0 h1 => by
      unfold toB
      simp only [List.length_append, List.length_cons, List.length_nil, dig1 h0 (show r < 5 by omega)]
    have X := fun (a : Ex) (ha : a.fit dom 20 = true) (hs : a.sh = true) => sh_len hdom ha hs
    rw [stB_eq, cntS_mk]
    rcases okS_open hok with ⟨r, v, e, hr, hv⟩ | ⟨v, a, e, hv, ha⟩ | ⟨r, a, e, hr, ha⟩ | e | e | ⟨r, v, a, b, e, hr, hv, ha, hb⟩ | ⟨v, e, hv⟩ | ⟨v, e, hv⟩ | ⟨a, e, ha⟩ | ⟨a, t, e', e, ha, ht, he⟩ | ⟨a, t, e, ha, ht⟩
    all_goals
      injection e with f1 f2 f3 f4 f5 f6 f7
      subst f1 f2 f3 f4 f5 f6 f7
    · show (toB r0 ++ nmB (nms q) v0 ++ [59]).length + 1 ≤ _
      simp only [List.length_append, List.length_cons, List.length_nil, rg r0 hr.1 hr.2, nm v0 hv.1 hv.2]
      omega
    · show (nmB (nms q) v0 ++ [32, 61, 32] ++ a0.txt ++ [59]).length + 1 ≤ _
      have := X a0 ha hsa
      simp only [List.length_append, List.length_cons, List.length_nil, nm v0 hv.1 hv.2]
      omega
    · show (toB r0 ++ a0.txt ++ [59]).length + 1 ≤ _
      have := X a0 ha hsa
      simp only [List.length_append, List.length_cons, List.length_nil, rg r0 hr.1 hr.2]
      omega
    · show 6 + 1 ≤ _
      omega
    · show 7 + 1 ≤ _
      omega
    · show (toB r0 ++ [99, 97, 115, 40] ++ nmB (nms q) v0 ++ [44, 32] ++ a0.txt ++ [44, 32] ++ b0.txt ++ [41, 59]).length + 1 ≤ _
      have := X a0 ha hsa
      have := X b0 hb hsb
      simp only [List.length_append, List.length_cons, List.length_nil, rg r0 hr.1 hr.2, nm v0 hv.1 hv.2]
      omega
    · show ([108, 111, 99, 107, 32] ++ nmB (nms q) v0 ++ [59]).length + 1 ≤ _
      simp only [List.length_append, List.length_cons, List.length_nil, nm v0 hv.1 hv.2]
      omega
    · show ([117, 110, 108, 111, 99, 107, 32] ++ nmB (nms q) v0 ++ [59]).length + 1 ≤ _
      simp only [List.length_append, List.length_cons, List.length_nil, nm v0 hv.1 hv.2]
      omega
    · show ([97, 115, 115, 101, 114, 116, 32] ++ a0.txt ++ [59]).length + 1 ≤ _
      have := X a0 ha hsa
      simp only [List.length_append, List.length_cons, List.length_nil]
      omega
    · have hZ : (if decide (e0.length ≠ 0) = true then [32, 101, 108, 115, 101, 32] ++ blkB (nms q) e0 else []).length ≤ 9 + 40 * cntL e0 := by
        have := hEE he
        cases hd : decide (e0.length ≠ 0)
        · rw [if_neg (by decide), List.length_nil]
          omega
        · unfold blkB
          rw [if_pos rfl]
          simp only [List.length_append, List.length_cons, List.length_nil]
          omega
      show ([105, 102, 32] ++ a0.txt ++ [32] ++ blkB (nms q) t0 ++ (if decide (e0.length ≠ 0) = true then [32, 101, 108, 115, 101, 32] ++ blkB (nms q) e0 else [])).length + 1 ≤ _
      generalize (if decide (e0.length ≠ 0) = true then [32, 101, 108, 115, 101, 32] ++ blkB (nms q) e0 else []) = Z at *
      have := X a0 ha hsa
      have := hT ht
      unfold blkB
      simp only [List.length_append, List.length_cons, List.length_nil]
      omega
    · show ([119, 104, 105, 108, 101, 32] ++ a0.txt ++ [32] ++ blkB (nms q) t0).length + 1 ≤ _
      have := X a0 ha hsa
      have := hT ht
      unfold blkB
      simp only [List.length_append, List.length_cons, List.length_nil]
      omega
theorem tsC_len {q : Nat} (hq : q ≤ 3) {dom : Int} (hdom : dom ≤ 4) : ∀ (t : List (List St)), (∀ l ∈ t, okL q dom 20 l = true ∧ SmL l) → (tsC (nms q) t).length ≤ 2100 * t.length
  | [], _ => by simp [tsC]
  | l :: t, h => by
    have ih := tsC_len hq hdom t fun x hx => h x (by simp [hx])
    obtain ⟨h1, h2, h3⟩ := h l (by simp)
    have hl := lnsB_shl (vs := nms q) l fun y hy => stB_shl hq hdom y 20 (okL_mem h1 y hy) (shL_mem h3 y hy)
    rw [tsC_cons]
    unfold blkB
    simp only [List.length_append, List.length_cons, List.length_nil]
    omega
/-- A program's text is not too long. -/
theorem prB_short {p : Pg} {q : Nat} (hv : p.vars = nms q) (h1 : 1 ≤ q) (h3 : q ≤ 3) (d2 : 2 ≤ p.dom) (d4 : p.dom ≤ 4) (ht : p.ths.length ≤ 3) (hk : ∀ l ∈ p.ths, okL q p.dom 20 l = true ∧ SmL l) : (prB p).length ≤ 10000 := by
  have ht' := tsC_len h3 d4 p.ths hk
  have hvl : (vsC (nms q)).length ≤ 6 := by
    have hq : q = 1 ∨ q = 2 ∨ q = 3 := by omega
    rcases hq with rfl | rfl | rfl <;> decide
  have hd := dig1 (n := p.dom) (by omega) (by omega)
  rw [prB_at, hv]
  simp only [List.length_append, List.length_cons, List.length_nil, hd]
  omega
end Go.Proofs.YtphlbbnmligadaaGreatDoor
