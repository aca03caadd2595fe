/- Statements in memory. No program in sight. -/
import Derived.Test.YtphlbbnmligadaaGreatDoorBunT
import Derived.Test.YtphlbbnmligadaaGreatDoorBunM
import Derived.Test.YtphlbbnmligadaaGreatDoorRows
import Derived.Laws.OwnMore
namespace Go.Proofs.YtphlbbnmligadaaGreatDoor
open Go.RowKit

/-- A statement: kind, register, variable, two expressions, statements within. -/
inductive St where
  | mk (k r v : Int) (a b : Ex) (t e : List St)

namespace St
def kind : St → Int | mk k _ _ _ _ _ _ => k
def reg : St → Int | mk _ r _ _ _ _ _ => r
def var : St → Int | mk _ _ v _ _ _ _ => v
def a : St → Ex | mk _ _ _ a _ _ _ => a
def b : St → Ex | mk _ _ _ _ b _ _ => b
def t : St → List St | mk _ _ _ _ _ t _ => t
def e : St → List St | mk _ _ _ _ _ _ e => e

theorem ind {P : St → Prop} (h : ∀ k r v a b t e, (∀ x, x ∈ t → P x) → (∀ x, x ∈ e → P x) → P (mk k r v a b t e)) : ∀ x, P x
  | mk k r v a b t e => h k r v a b t e (fun x _hx => ind h x) (fun x _hx => ind h x)
termination_by x => SizeOf.sizeOf x
decreasing_by
  all_goals
    have := List.sizeOf_lt_of_mem _hx
    simp only [mk.sizeOf_spec]; omega
end St

/-- A statement lies in 'w', its parts in blocks of S: its thirteen cells. -/
inductive StIn (w : World) (S : Nat → Prop) : List Value → St → Prop
  | mk (k r v : Int) (u0 u1 u2 u3 v0 v1 v2 v3 : Value) (a b : Ex) (ta ea : Option Addr) (tc ec : Nat) (t e : List St) (ct ce : Nat → List Value)
      (wk : (Lit.int .i64 k).wf = true) (wr : (Lit.int .i64 r).wf = true) (wv : (Lit.int .i64 v).wf = true)
      (ha : ExIn w S [u0, u1, u2, u3] a) (hb : ExIn w S [v0, v1, v2, v3] b)
      (ht : Sl w S 13 ta t.length tc ct) (he : Sl w S 13 ea e.length ec ce)
      (htk : ∀ i (h : i < t.length), StIn w S (ct i) t[i]) (hek : ∀ i (h : i < e.length), StIn w S (ce i) e[i]) :
      StIn w S [.int .i64 k, .int .i64 r, .int .i64 v, u0, u1, u2, u3, v0, v1, v2, v3, .slice ta t.length tc, .slice ea e.length ec] (.mk k r v a b t e)

/-- A row of statements. -/
def StRow (w : World) (S : Nat → Prop) (a : Option Addr) (n cap : Nat) (l : List St) : Prop :=
  n = l.length ∧ ∃ C : Nat → List Value, Sl w S 13 a l.length cap C ∧ ∀ i (h : i < l.length), StIn w S (C i) l[i]

namespace StIn
variable {w w' : World} {S S' : Nat → Prop} {cs : List Value} {x : St}
theorem keep (h : StIn w S cs x) (hk : ∀ b o, S b → w'.cell? ⟨b, o, none⟩ = w.cell? ⟨b, o, none⟩) : StIn w' S cs x := by
  induction h with
  | mk k r v u0 u1 u2 u3 v0 v1 v2 v3 a b ta ea tc ec t e ct ce wk wr wv ha hb ht he _ _ iht ihe =>
    exact .mk k r v u0 u1 u2 u3 v0 v1 v2 v3 a b ta ea tc ec t e ct ce wk wr wv (ha.keep hk) (hb.keep hk) (ht.keep hk) (he.keep hk) (fun i hi => iht i hi) (fun i hi => ihe i hi)
theorem widen (h : StIn w S cs x) (hS : ∀ b, S b → S' b) : StIn w S' cs x := by
  induction h with
  | mk k r v u0 u1 u2 u3 v0 v1 v2 v3 a b ta ea tc ec t e ct ce wk wr wv ha hb ht he _ _ iht ihe =>
    exact .mk k r v u0 u1 u2 u3 v0 v1 v2 v3 a b ta ea tc ec t e ct ce wk wr wv (ha.widen hS) (hb.widen hS) (ht.widen hS) (he.widen hS) (fun i hi => iht i hi) (fun i hi => ihe i hi)
theorem open_ {k r v : Int} {a b : Ex} {t e : List St} (h : StIn w S cs (.mk k r v a b t e)) :
    ∃ u0 u1 u2 u3 v0 v1 v2 v3 ta ea tc ec, cs = [.int .i64 k, .int .i64 r, .int .i64 v, u0, u1, u2, u3, v0, v1, v2, v3, .slice ta t.length tc, .slice ea e.length ec] ∧
      ExIn w S [u0, u1, u2, u3] a ∧ ExIn w S [v0, v1, v2, v3] b ∧ StRow w S ta t.length tc t ∧ StRow w S ea e.length ec e := by
  cases h with
  | mk _ _ _ u0 u1 u2 u3 v0 v1 v2 v3 _ _ ta ea tc ec _ _ ct ce wk wr wv ha hb ht he htk hek =>
    exact ⟨u0, u1, u2, u3, v0, v1, v2, v3, ta, ea, tc, ec, rfl, ha, hb, ⟨rfl, ct, ht, htk⟩, ⟨rfl, ce, he, hek⟩⟩
theorem wf (h : StIn w S cs x) : (Lit.int .i64 x.kind).wf = true ∧ (Lit.int .i64 x.reg).wf = true ∧ (Lit.int .i64 x.var).wf = true := by
  cases h with
  | mk _ _ _ _ _ _ _ _ _ _ _ _ _ _ _ _ _ _ _ _ _ wk wr wv => exact ⟨wk, wr, wv⟩
end StIn

theorem ExIn.ones {w : World} {S : Nat → Prop} {u0 u1 u2 u3 : Value} {x : Ex} (h : ExIn w S [u0, u1, u2, u3] x) : u0.oneCell' = true ∧ u1.oneCell' = true ∧ u2.oneCell' = true ∧ u3.oneCell' = true := by
  cases h with
  | mk => exact ⟨rfl, rfl, rfl, rfl⟩

namespace StRow
variable {w w' : World} {S S' : Nat → Prop} {a : Option Addr} {n cap : Nat} {l : List St}
theorem keep (h : StRow w S a n cap l) (hk : ∀ b o, S b → w'.cell? ⟨b, o, none⟩ = w.cell? ⟨b, o, none⟩) : StRow w' S a n cap l := by
  obtain ⟨hn, C, h1, h2⟩ := h
  exact ⟨hn, C, h1.keep hk, fun i hi => (h2 i hi).keep hk⟩
theorem widen (h : StRow w S a n cap l) (hS : ∀ b, S b → S' b) : StRow w S' a n cap l := by
  obtain ⟨hn, C, h1, h2⟩ := h
  exact ⟨hn, C, h1.widen hS, fun i hi => (h2 i hi).widen hS⟩
theorem le (h : StRow w S a n cap l) : l.length ≤ cap := h.2.choose_spec.1.le
theorem mx (h : StRow w S a n cap l) : cap ≤ maxLen := h.2.choose_spec.1.mx
theorem nil_ : StRow w S none 0 0 [] := ⟨rfl, fun _ => [], Sl.nil, fun i hi => absurd hi (by simp)⟩
/-- What lies at an index. -/
theorem at_ (h : StRow w S a n cap l) (i : Nat) (hi : i < l.length) : ∃ b off u0 u1 u2 u3 v0 v1 v2 v3 ta ea tc ec, a = some ⟨b, off, none⟩ ∧ S b ∧
    (w.cell? ⟨b, off + i * 13, none⟩ = some (.int .i64 l[i].kind) ∧ w.cell? ⟨b, off + i * 13 + 1, none⟩ = some (.int .i64 l[i].reg) ∧ w.cell? ⟨b, off + i * 13 + 2, none⟩ = some (.int .i64 l[i].var)) ∧
    (w.cell? ⟨b, off + i * 13 + 3, none⟩ = some u0 ∧ w.cell? ⟨b, off + i * 13 + 4, none⟩ = some u1 ∧ w.cell? ⟨b, off + i * 13 + 5, none⟩ = some u2 ∧ w.cell? ⟨b, off + i * 13 + 6, none⟩ = some u3) ∧
    (w.cell? ⟨b, off + i * 13 + 7, none⟩ = some v0 ∧ w.cell? ⟨b, off + i * 13 + 8, none⟩ = some v1 ∧ w.cell? ⟨b, off + i * 13 + 9, none⟩ = some v2 ∧ w.cell? ⟨b, off + i * 13 + 10, none⟩ = some v3) ∧
    (w.cell? ⟨b, off + i * 13 + 11, none⟩ = some (.slice ta l[i].t.length tc) ∧ w.cell? ⟨b, off + i * 13 + 12, none⟩ = some (.slice ea l[i].e.length ec)) ∧
    (ExIn w S [u0, u1, u2, u3] l[i].a ∧ ExIn w S [v0, v1, v2, v3] l[i].b ∧ StRow w S ta l[i].t.length tc l[i].t ∧ StRow w S ea l[i].e.length ec l[i].e) ∧
    StIn w S [.int .i64 l[i].kind, .int .i64 l[i].reg, .int .i64 l[i].var, u0, u1, u2, u3, v0, v1, v2, v3, .slice ta l[i].t.length tc, .slice ea l[i].e.length ec] l[i] := by
  obtain ⟨hn, C, h1, h2⟩ := h
  obtain ⟨b, off, rfl, hb, hc⟩ := h1.at_ (by omega)
  have hin := h2 i hi
  have g := fun j hj => hc i hi j hj
  clear hc h2 h1
  rcases hx : l[i] with ⟨k, r, v, xa, xb, t, e⟩
  rw [hx] at hin
  obtain ⟨u0, u1, u2, u3, v0, v1, v2, v3, ta, ea, tc, ec, he, ha, hbb, ht, hee⟩ := hin.open_
  rw [he] at hin
  simp only [he] at g
  simp only [St.kind, St.reg, St.var, St.a, St.b, St.t, St.e]
  refine ⟨b, off, u0, u1, u2, u3, v0, v1, v2, v3, ta, ea, tc, ec, rfl, hb, ⟨?_, ?_, ?_⟩, ⟨?_, ?_, ?_, ?_⟩, ⟨?_, ?_, ?_, ?_⟩, ⟨?_, ?_⟩, ⟨ha, hbb, ht, hee⟩, hin⟩
  · simpa using g 0 (by omega)
  · simpa [Nat.add_assoc] using g 1 (by omega)
  · simpa [Nat.add_assoc] using g 2 (by omega)
  · simpa [Nat.add_assoc] using g 3 (by omega)
  · simpa [Nat.add_assoc] using g 4 (by omega)
  · simpa [Nat.add_assoc] using g 5 (by omega)
  · simpa [Nat.add_assoc] using g 6 (by omega)
  · simpa [Nat.add_assoc] using g 7 (by omega)
  · simpa [Nat.add_assoc] using g 8 (by omega)
  · simpa [Nat.add_assoc] using g 9 (by omega)
  · simpa [Nat.add_assoc] using g 10 (by omega)
  · simpa [Nat.add_assoc] using g 11 (by omega)
  · simpa [Nat.add_assoc] using g 12 (by omega)
end StRow
theorem Kp.st {W0 w : World} (h : Kp W0 w) {cs : List Value} {x : St} (hx : StIn W0 (In_ W0) cs x) : StIn w (In_ w) cs x := (hx.keep fun b o hb => h.2 b o hb).widen (In_.mono h.1.size)
theorem Kp.strow {W0 w : World} (h : Kp W0 w) {a : Option Addr} {n cap : Nat} {l : List St} (hx : StRow W0 (In_ W0) a n cap l) : StRow w (In_ w) a n cap l := (hx.keep fun b o hb => h.2 b o hb).widen (In_.mono h.1.size)

/-- What a kind has within. -/
def h4 (k : Int) : Bool := k == 10 || k == 11
def h5 (k : Int) : Bool := k == 10
/-- How many statements there are, within and all. -/
def cntS : St → Nat
  | .mk _ _ _ _ _ t e => 1 + (t.attach.map fun x => cntS x.1).sum + (e.attach.map fun x => cntS x.1).sum
termination_by x => SizeOf.sizeOf x
decreasing_by
  all_goals
    have := List.sizeOf_lt_of_mem x.2
    simp only [St.mk.sizeOf_spec]; omega
def cntL (l : List St) : Nat := (l.map cntS).sum
theorem cntS_mk (k r v : Int) (a b : Ex) (t e : List St) : cntS (.mk k r v a b t e) = 1 + cntL t + cntL e := by
  rw [cntS, List.attach_map_val (f := cntS), List.attach_map_val (f := cntS)]
  rfl
theorem cntS_eq (x : St) : cntS x = 1 + cntL x.t + cntL x.e := by
  rcases x with ⟨k, r, v, a, b, t, e⟩
  exact cntS_mk k r v a b t e
/-- May a statement be, within so many others, but for how many there are? -/
def okS (vars dom : Int) : Nat → St → Bool
  | 0, _ => false
  | deep + 1, .mk k r v a b t e => decide (1 ≤ k) && decide (k ≤ 11) && partL k r v a b vars dom && (h4 k || t.isEmpty) && (h5 k || e.isEmpty) && t.all (okS vars dom deep) && e.all (okS vars dom deep)
def okL (vars dom : Int) (deep : Nat) (l : List St) : Bool := l.all (okS vars dom deep)
def okF (vars dom : Int) (deep : Nat) (x : St) : Bool := decide (1 ≤ x.kind) && decide (x.kind ≤ 11) && partL x.kind x.reg x.var x.a x.b vars dom && (h4 x.kind || x.t.isEmpty) && (h5 x.kind || x.e.isEmpty) && okL vars dom deep x.t && okL vars dom deep x.e
theorem okS_succ (vars dom : Int) (deep : Nat) (x : St) : okS vars dom (deep + 1) x = okF vars dom deep x := by
  rcases x with ⟨k, r, v, a, b, t, e⟩
  rfl
theorem okF_mk (vars dom : Int) (deep : Nat) (k r v : Int) (a b : Ex) (t e : List St) : okF vars dom deep (.mk k r v a b t e) = (decide (1 ≤ k) && decide (k ≤ 11) && partL k r v a b vars dom && (h4 k || t.isEmpty) && (h5 k || e.isEmpty) && okL vars dom deep t && okL vars dom deep e) := rfl
/-- .. and of at most 200, some of which there have been. -/
def sumB (vars dom : Int) (deep : Nat) (l : List St) (many : Nat) : Bool := okL vars dom deep l && decide (many + cntL l ≤ 200)

theorem okL_take {vars dom : Int} {deep : Nat} {l : List St} {i : Nat} (hi : i < l.length) (h : okS vars dom deep l[i] = false) : okL vars dom deep l = false := by
  unfold okL
  rw [Bool.eq_false_iff]
  intro hh
  have := List.all_eq_true.1 hh l[i] (List.getElem_mem hi)
  rw [h] at this
  cases this
theorem cntL_take (l : List St) (i : Nat) (hi : i < l.length) : cntL (l.take (i + 1)) = cntL (l.take i) + cntS l[i] := by
  unfold cntL
  rw [List.take_succ_eq_append_getElem hi, List.map_append, List.sum_append]
  simp
theorem cntL_le (l : List St) (i : Nat) : cntL (l.take i) ≤ cntL l := by
  unfold cntL
  conv => rhs; rw [← List.take_append_drop i l, List.map_append, List.sum_append]
  omega
theorem okL_step {vars dom : Int} {deep : Nat} {l : List St} {i : Nat} (hi : i < l.length) (h : okL vars dom deep (l.take i) = true) (hx : okS vars dom deep l[i] = true) : okL vars dom deep (l.take (i + 1)) = true := by
  unfold okL at *
  rw [List.take_succ_eq_append_getElem hi, List.all_append, h]
  simp [hx]
theorem cnt_pos (x : St) : 1 ≤ cntS x := by rw [cntS_eq]; omega
end Go.Proofs.YtphlbbnmligadaaGreatDoor
namespace Go.Proofs.YtphlbbnmligadaaGreatDoor
open Go.RowKit

/-- Has an expression no parts of parts? -/
def Ex.sh : Ex → Bool
  | .mk _ _ _ l => l.all fun y => y.kids.isEmpty
/-- Are a statement's expressions short, all within? -/
def shS : St → Bool
  | .mk _ _ _ a b t e => a.sh && b.sh && (t.attach.map fun x => shS x.1).all id && (e.attach.map fun x => shS x.1).all id
termination_by x => SizeOf.sizeOf x
decreasing_by
  all_goals
    have := List.sizeOf_lt_of_mem x.2
    simp only [St.mk.sizeOf_spec]; omega
def shL (l : List St) : Bool := (l.map shS).all id
theorem shS_mk (k r v : Int) (a b : Ex) (t e : List St) : shS (.mk k r v a b t e) = (a.sh && b.sh && shL t && shL e) := by
  rw [shS, List.attach_map_val (f := shS), List.attach_map_val (f := shS)]
  rfl
theorem shL_nil : shL [] = true := rfl
theorem shL_snoc {L : List St} {y : St} (h : shL L = true) (hy : shS y = true) : shL (L ++ [y]) = true := by
  unfold shL at h ⊢
  simp only [List.map_append, List.all_append, h, List.map_cons, List.map_nil, List.all_cons, hy, List.all_nil, id, Bool.and_self]
theorem shL_mem {L : List St} (h : shL L = true) : ∀ x ∈ L, shS x = true := by
  intro x hx
  unfold shL at h
  rw [List.all_eq_true] at h
  exact h (shS x) (List.mem_map_of_mem hx)
theorem exZ_sh : (Ex.mk 0 0 0 []).sh = true := rfl
theorem fit2_sh {dom : Int} {x : Ex} (h : x.fit dom (1 + 1) = true) : x.sh = true := by
  obtain ⟨k, n, o, l⟩ := x
  unfold Ex.fit at h
  by_cases h1 : k = 1
  · rw [if_pos h1] at h
    simp only [Bool.and_eq_true, List.isEmpty_iff] at h
    rw [h.2]; rfl
  rw [if_neg h1] at h
  by_cases h2 : k = 2
  · rw [if_pos h2] at h
    simp only [Bool.and_eq_true, List.isEmpty_iff] at h
    rw [h.2]; rfl
  rw [if_neg h2] at h
  by_cases h3 : k = 3
  · rw [if_pos h3] at h
    simp only [Bool.and_eq_true] at h
    match l, h.2 with
    | [x, y], hxy =>
      simp only [Bool.and_eq_true] at hxy
      have leaf : ∀ z : Ex, z.fit dom 1 = true → z.kids.isEmpty = true := by
        intro z hz
        obtain ⟨k', n', o', l'⟩ := z
        unfold Ex.fit at hz
        by_cases g1 : k' = 1
        · rw [if_pos g1] at hz
          simp only [Bool.and_eq_true] at hz
          exact hz.2
        rw [if_neg g1] at hz
        by_cases g2 : k' = 2
        · rw [if_pos g2] at hz
          simp only [Bool.and_eq_true] at hz
          exact hz.2
        rw [if_neg g2] at hz
        by_cases g3 : k' = 3
        · rw [if_pos g3] at hz
          simp only [Bool.and_eq_true] at hz
          match l', hz.2 with
          | [u, v], huv => simp [Ex.fit] at huv
        · rw [if_neg g3] at hz; cases hz
      show ([x, y].all fun y => y.kids.isEmpty) = true
      simp [leaf x hxy.1, leaf y hxy.2]
  · rw [if_neg h3] at h; cases h
/-- A small thread: few statements, short expressions. -/
def SmL (L : List St) : Prop := cntL L ≤ 52 ∧ shL L = true
end Go.Proofs.YtphlbbnmligadaaGreatDoor
namespace Go.Proofs.YtphlbbnmligadaaGreatDoor
open Go.RowKit

/-- An instruction. -/
structure Ins where
  op : Int
  reg : Int
  v : Int
  a : Ex
  b : Ex
  to : Int

def InsIn (w : World) (S : Nat → Prop) (cs : List Value) (x : Ins) : Prop :=
  ∃ u0 u1 u2 u3 v0 v1 v2 v3, cs = [.int .i64 x.op, .int .i64 x.reg, .int .i64 x.v, u0, u1, u2, u3, v0, v1, v2, v3, .int .i64 x.to] ∧ ExIn w S [u0, u1, u2, u3] x.a ∧ ExIn w S [v0, v1, v2, v3] x.b
theorem InsIn.keep {w w' : World} {S : Nat → Prop} {cs : List Value} {x : Ins} (h : InsIn w S cs x) (hk : ∀ b o, S b → w'.cell? ⟨b, o, none⟩ = w.cell? ⟨b, o, none⟩) : InsIn w' S cs x := by
  obtain ⟨u0, u1, u2, u3, v0, v1, v2, v3, hc, ha, hb⟩ := h
  exact ⟨u0, u1, u2, u3, v0, v1, v2, v3, hc, ha.keep hk, hb.keep hk⟩
theorem InsIn.widen {w : World} {S S' : Nat → Prop} {cs : List Value} {x : Ins} (h : InsIn w S cs x) (hS : ∀ b, S b → S' b) : InsIn w S' cs x := by
  obtain ⟨u0, u1, u2, u3, v0, v1, v2, v3, hc, ha, hb⟩ := h
  exact ⟨u0, u1, u2, u3, v0, v1, v2, v3, hc, ha.widen hS, hb.widen hS⟩
theorem Kp.ins {W0 w : World} (h : Kp W0 w) {cs : List Value} {x : Ins} (hx : InsIn W0 (In_ W0) cs x) : InsIn w (In_ w) cs x := (hx.keep fun b o hb => h.2 b o hb).widen (In_.mono h.1.size)

/-- A row of instructions. -/
def InsRow (w : World) (S : Nat → Prop) (a : Option Addr) (n cap : Nat) (l : List Ins) : Prop :=
  n = l.length ∧ ∃ C : Nat → List Value, Sl w S 12 a l.length cap C ∧ ∀ i (h : i < l.length), InsIn w S (C i) l[i]
namespace InsRow
variable {w w' : World} {S S' : Nat → Prop} {a : Option Addr} {n cap : Nat} {l : List Ins}
theorem keep (h : InsRow w S a n cap l) (hk : ∀ b o, S b → w'.cell? ⟨b, o, none⟩ = w.cell? ⟨b, o, none⟩) : InsRow w' S a n cap l := by
  obtain ⟨hn, C, h1, h2⟩ := h
  exact ⟨hn, C, h1.keep hk, fun i hi => (h2 i hi).keep hk⟩
theorem widen (h : InsRow w S a n cap l) (hS : ∀ b, S b → S' b) : InsRow w S' a n cap l := by
  obtain ⟨hn, C, h1, h2⟩ := h
  exact ⟨hn, C, h1.widen hS, fun i hi => (h2 i hi).widen hS⟩
theorem le (h : InsRow w S a n cap l) : l.length ≤ cap := h.2.choose_spec.1.le
theorem mx (h : InsRow w S a n cap l) : cap ≤ maxLen := h.2.choose_spec.1.mx
theorem at_ (h : InsRow w S a n cap l) (i : Nat) (hi : i < l.length) : ∃ b off u0 u1 u2 u3 v0 v1 v2 v3, a = some ⟨b, off, none⟩ ∧ S b ∧
    (w.cell? ⟨b, off + i * 12, none⟩ = some (.int .i64 l[i].op) ∧ w.cell? ⟨b, off + i * 12 + 1, none⟩ = some (.int .i64 l[i].reg) ∧ w.cell? ⟨b, off + i * 12 + 2, none⟩ = some (.int .i64 l[i].v)) ∧
    (w.cell? ⟨b, off + i * 12 + 3, none⟩ = some u0 ∧ w.cell? ⟨b, off + i * 12 + 4, none⟩ = some u1 ∧ w.cell? ⟨b, off + i * 12 + 5, none⟩ = some u2 ∧ w.cell? ⟨b, off + i * 12 + 6, none⟩ = some u3) ∧
    (w.cell? ⟨b, off + i * 12 + 7, none⟩ = some v0 ∧ w.cell? ⟨b, off + i * 12 + 8, none⟩ = some v1 ∧ w.cell? ⟨b, off + i * 12 + 9, none⟩ = some v2 ∧ w.cell? ⟨b, off + i * 12 + 10, none⟩ = some v3) ∧
    w.cell? ⟨b, off + i * 12 + 11, none⟩ = some (.int .i64 l[i].to) ∧ ExIn w S [u0, u1, u2, u3] l[i].a ∧ ExIn w S [v0, v1, v2, v3] l[i].b := by
  obtain ⟨hn, C, h1, h2⟩ := h
  obtain ⟨b, off, rfl, hb, hc⟩ := h1.at_ (by omega)
  obtain ⟨u0, u1, u2, u3, v0, v1, v2, v3, he, ha, hbb⟩ := h2 i hi
  have g := fun j hj => hc i hi j hj
  simp only [he] at g
  refine ⟨b, off, u0, u1, u2, u3, v0, v1, v2, v3, rfl, hb, ⟨?_, ?_, ?_⟩, ⟨?_, ?_, ?_, ?_⟩, ⟨?_, ?_, ?_, ?_⟩, ?_, ha, hbb⟩
  · simpa using g 0 (by omega)
  · simpa [Nat.add_assoc] using g 1 (by omega)
  · simpa [Nat.add_assoc] using g 2 (by omega)
  · simpa [Nat.add_assoc] using g 3 (by omega)
  · simpa [Nat.add_assoc] using g 4 (by omega)
  · simpa [Nat.add_assoc] using g 5 (by omega)
  · simpa [Nat.add_assoc] using g 6 (by omega)
  · simpa [Nat.add_assoc] using g 7 (by omega)
  · simpa [Nat.add_assoc] using g 8 (by omega)
  · simpa [Nat.add_assoc] using g 9 (by omega)
  · simpa [Nat.add_assoc] using g 10 (by omega)
  · simpa [Nat.add_assoc] using g 11 (by omega)
theorem nil_ : InsRow w S none 0 0 [] := ⟨rfl, fun _ => [], Sl.nil, fun i hi => absurd hi (by simp)⟩
end InsRow
theorem Kp.row {W0 w : World} (h : Kp W0 w) {a : Option Addr} {n cap : Nat} {l : List Ins} (hx : InsRow W0 (In_ W0) a n cap l) : InsRow w (In_ w) a n cap l := (hx.keep fun b o hb => h.2 b o hb).widen (In_.mono h.1.size)

/-- Threads of instructions. -/
def ThsIn (w : World) (S : Nat → Prop) (a : Option Addr) (n cap : Nat) (t : List (List Ins)) : Prop :=
  n = t.length ∧ ∃ (A : Nat → Option Addr) (K : Nat → Nat), Sl w S 1 a t.length cap (fun i => [.slice (A i) (t[i]?.getD []).length (K i)]) ∧ ∀ i (h : i < t.length), InsRow w S (A i) t[i].length (K i) t[i]
namespace ThsIn
variable {w w' : World} {S S' : Nat → Prop} {a : Option Addr} {n cap : Nat} {t : List (List Ins)}
theorem keep (h : ThsIn w S a n cap t) (hk : ∀ b o, S b → w'.cell? ⟨b, o, none⟩ = w.cell? ⟨b, o, none⟩) : ThsIn w' S a n cap t := by
  obtain ⟨hn, A, K, h1, h2⟩ := h
  exact ⟨hn, A, K, h1.keep hk, fun i hi => (h2 i hi).keep hk⟩
theorem widen (h : ThsIn w S a n cap t) (hS : ∀ b, S b → S' b) : ThsIn w S' a n cap t := by
  obtain ⟨hn, A, K, h1, h2⟩ := h
  exact ⟨hn, A, K, h1.widen hS, fun i hi => (h2 i hi).widen hS⟩
theorem le (h : ThsIn w S a n cap t) : t.length ≤ cap := by obtain ⟨_, _, _, h1, _⟩ := h; exact h1.le
theorem mx (h : ThsIn w S a n cap t) : cap ≤ maxLen := by obtain ⟨_, _, _, h1, _⟩ := h; exact h1.mx
theorem at_ (h : ThsIn w S a n cap t) (i : Nat) (hi : i < t.length) : ∃ b off ar kr, a = some ⟨b, off, none⟩ ∧ S b ∧ w.cell? ⟨b, off + i, none⟩ = some (.slice ar t[i].length kr) ∧ InsRow w S ar t[i].length kr t[i] := by
  obtain ⟨hn, A, K, h1, h2⟩ := h
  obtain ⟨b, off, rfl, hb, hc⟩ := h1.at_ (by omega)
  refine ⟨b, off, A i, K i, rfl, hb, ?_, h2 i hi⟩
  have := hc i hi 0 (by omega)
  simpa [hi] using this
end ThsIn
theorem Kp.ths {W0 w : World} (h : Kp W0 w) {a : Option Addr} {n cap : Nat} {t : List (List Ins)} (hx : ThsIn W0 (In_ W0) a n cap t) : ThsIn w (In_ w) a n cap t := (hx.keep fun b o hb => h.2 b o hb).widen (In_.mono h.1.size)

/-- The kind of statement that an instruction is like; how far it may lead. -/
def insK (op : Int) : Int := if op = 12 then 9 else if op = 13 then 4 else op
def insT (op many : Int) : Int := if op = 12 ∨ op = 13 then many else 0
/-- May an instruction be, of so many? -/
def insL (vars dom : Int) (x : Ins) (many : Int) : Bool :=
  decide (1 ≤ insK x.op) && decide (insK x.op ≤ 9) && decide (0 ≤ x.to) && decide (x.to ≤ insT x.op many) && partL (insK x.op) x.reg x.v x.a x.b vars dom
def rowL (vars dom : Int) (l : List Ins) : Bool := decide (l.length ≤ 600) && l.all fun x => insL vars dom x l.length
/-- May code be? -/
def rightL (vars dom : Int) (t : List (List Ins)) : Bool :=
  decide (1 ≤ vars) && decide (vars ≤ 4) && decide (2 ≤ dom) && decide (dom ≤ 16) && decide (1 ≤ t.length) && decide (t.length ≤ 4) && t.all fun l => rowL vars dom l
end Go.Proofs.YtphlbbnmligadaaGreatDoor
namespace Go.Proofs.YtphlbbnmligadaaGreatDoor
open Go.RowKit

def exZ : Ex := .mk 0 0 0 []
/-- An instruction that leads. -/
def brI (a : Ex) (to : Nat) : Ins := ⟨12, 0, 0, a, exZ, to⟩
def juI (to : Nat) : Ins := ⟨13, 0, 0, exZ, exZ, to⟩
/-- A statement's instructions, of what is within. -/
def cmpF (x : St) (at_ : Nat) (A : Nat → List Ins) (B : Nat → List Ins) : List Ins :=
  if x.kind = 10 then
    if x.e.length = 0 then brI x.a (at_ + 1 + (A (at_ + 1)).length) :: A (at_ + 1)
    else brI x.a (at_ + 2 + (A (at_ + 1)).length) :: A (at_ + 1) ++ juI (at_ + 2 + (A (at_ + 1)).length + (B (at_ + 2 + (A (at_ + 1)).length)).length) :: B (at_ + 2 + (A (at_ + 1)).length)
  else if x.kind = 11 then brI x.a (at_ + 2 + (A (at_ + 1)).length) :: A (at_ + 1) ++ [juI at_]
  else [⟨x.kind, x.reg, x.var, x.a, x.b, 0⟩]
theorem cmpF_a {x : St} (at_ : Nat) (A B : Nat → List Ins) (h : x.kind = 10) (h0 : x.e.length = 0) : cmpF x at_ A B = brI x.a (at_ + 1 + (A (at_ + 1)).length) :: A (at_ + 1) := by unfold cmpF; rw [if_pos h, if_pos h0]
theorem cmpF_b {x : St} (at_ : Nat) (A B : Nat → List Ins) (h : x.kind = 10) (h0 : x.e.length ≠ 0) : cmpF x at_ A B = brI x.a (at_ + 2 + (A (at_ + 1)).length) :: A (at_ + 1) ++ juI (at_ + 2 + (A (at_ + 1)).length + (B (at_ + 2 + (A (at_ + 1)).length)).length) :: B (at_ + 2 + (A (at_ + 1)).length) := by unfold cmpF; rw [if_pos h, if_neg h0]
theorem cmpF_w {x : St} (at_ : Nat) (A B : Nat → List Ins) (h : x.kind = 11) : cmpF x at_ A B = brI x.a (at_ + 2 + (A (at_ + 1)).length) :: A (at_ + 1) ++ [juI at_] := by unfold cmpF; rw [if_neg (by omega), if_pos h]
theorem cmpF_o {x : St} (at_ : Nat) (A B : Nat → List Ins) (h : x.kind ≠ 10) (h1 : x.kind ≠ 11) : cmpF x at_ A B = [⟨x.kind, x.reg, x.var, x.a, x.b, 0⟩] := by unfold cmpF; rw [if_neg h, if_neg h1]
def cmpS : St → Nat → List Ins
  | .mk k r v a b t e, at_ => cmpF (.mk k r v a b t e) at_ (fun n => t.attach.foldl (fun acc x => acc ++ cmpS x.1 (n + acc.length)) []) (fun n => e.attach.foldl (fun acc x => acc ++ cmpS x.1 (n + acc.length)) [])
termination_by x => SizeOf.sizeOf x
decreasing_by
  all_goals
    have := List.sizeOf_lt_of_mem x.2
    simp only [St.mk.sizeOf_spec]; omega
def cmpL (l : List St) (at_ : Nat) : List Ins := l.foldl (fun acc x => acc ++ cmpS x (at_ + acc.length)) []
theorem cmpS_eq (x : St) (at_ : Nat) : cmpS x at_ = cmpF x at_ (cmpL x.t) (cmpL x.e) := by
  rcases x with ⟨k, r, v, a, b, t, e⟩
  rw [cmpS]
  congr 1
  · funext n
    exact List.foldl_attach (f := fun acc x => acc ++ cmpS x (n + acc.length))
  · funext n
    exact List.foldl_attach (f := fun acc x => acc ++ cmpS x (n + acc.length))
theorem cmpL_nil (at_ : Nat) : cmpL [] at_ = [] := rfl
theorem cmpL_take (l : List St) (at_ i : Nat) (hi : i < l.length) : cmpL (l.take (i + 1)) at_ = cmpL (l.take i) at_ ++ cmpS l[i] (at_ + (cmpL (l.take i) at_).length) := by
  unfold cmpL
  rw [List.take_succ_eq_append_getElem hi, List.foldl_append]
  rfl
theorem cmpS_len (x : St) : ∀ at_, (cmpS x at_).length ≤ 2 * cntS x := by
  have hL : ∀ l : List St, (∀ x, x ∈ l → ∀ at_, (cmpS x at_).length ≤ 2 * cntS x) → ∀ at_, (cmpL l at_).length ≤ 2 * cntL l := by
    intro l h at_
    have : ∀ i, i ≤ l.length → (cmpL (l.take i) at_).length ≤ 2 * cntL (l.take i) := by
      intro i
      induction i with
      | zero => intro _; simp [cmpL]
      | succ i ih =>
        intro hi
        rw [cmpL_take l at_ i (by omega), cntL_take l i (by omega), List.length_append]
        have := ih (by omega)
        have := h l[i] (List.getElem_mem (by omega)) (at_ + (cmpL (l.take i) at_).length)
        omega
    have := this l.length (Nat.le_refl _)
    rwa [List.take_length] at this
  induction x using St.ind with
  | h k r v a b t e ht he =>
    intro at_
    rw [cmpS_eq, cntS_mk]
    have h1 := hL t ht
    have h2 := hL e he
    by_cases h10 : (St.mk k r v a b t e).kind = 10
    · by_cases h0 : (St.mk k r v a b t e).e.length = 0
      · rw [cmpF_a _ _ _ h10 h0]
        have := h1 (at_ + 1)
        simp only [List.length_cons, St.t]; omega
      · rw [cmpF_b _ _ _ h10 h0]
        have := h1 (at_ + 1)
        have := h2 (at_ + 2 + (cmpL t (at_ + 1)).length)
        simp only [List.length_cons, List.length_append, List.cons_append, St.t, St.e]; omega
    · by_cases h11 : (St.mk k r v a b t e).kind = 11
      · rw [cmpF_w _ _ _ h11]
        have := h1 (at_ + 1)
        simp only [List.length_cons, List.length_append, List.length_nil, List.cons_append, St.t]; omega
      · rw [cmpF_o _ _ _ h10 h11]
        simp only [List.length_cons, List.length_nil]; omega
theorem cmpL_len (l : List St) (at_ : Nat) : (cmpL l at_).length ≤ 2 * cntL l := by
  have : ∀ i, i ≤ l.length → (cmpL (l.take i) at_).length ≤ 2 * cntL (l.take i) := by
    intro i
    induction i with
    | zero => intro _; simp [cmpL]
    | succ i ih =>
      intro hi
      rw [cmpL_take l at_ i (by omega), cntL_take l i (by omega), List.length_append]
      have := ih (by omega)
      have := cmpS_len l[i] (at_ + (cmpL (l.take i) at_).length)
      omega
  have := this l.length (Nat.le_refl _)
  rwa [List.take_length] at this
end Go.Proofs.YtphlbbnmligadaaGreatDoor
namespace Go.Proofs.YtphlbbnmligadaaGreatDoor
open Go.RowKit

/-- Are two lists the same, element by element? -/
def eqW {α : Type} (f : α → α → Bool) (a b : List α) : Bool := decide (a.length = b.length) && (List.range a.length).all fun i => match a[i]?, b[i]? with | some x, some y => f x y | _, _ => false
theorem eqW_ne {α : Type} (f : α → α → Bool) {a b : List α} (h : a.length ≠ b.length) : eqW f a b = false := by
  unfold eqW; rw [decide_eq_false h]; rfl
theorem eqW_of {α : Type} (f : α → α → Bool) {a b : List α} (h : a.length = b.length) (hb : ∀ i (h1 : i < a.length) (h2 : i < b.length), f a[i] b[i] = true) : eqW f a b = true := by
  unfold eqW
  rw [decide_eq_true h, Bool.true_and, List.all_eq_true]
  intro i hi
  have h1 : i < a.length := by simpa using hi
  have h2 : i < b.length := by omega
  simp only [List.getElem?_eq_getElem h1, List.getElem?_eq_getElem h2]
  exact hb i h1 h2
theorem eqW_bad {α : Type} (f : α → α → Bool) {a b : List α} (i : Nat) (h1 : i < a.length) (h2 : i < b.length) (h : f a[i] b[i] = false) : eqW f a b = false := by
  unfold eqW
  have : ((List.range a.length).all fun i => match a[i]?, b[i]? with | some x, some y => f x y | _, _ => false) = false := by
    rw [List.all_eq_false]
    refine ⟨i, by simpa using h1, ?_⟩
    simp only [List.getElem?_eq_getElem h1, List.getElem?_eq_getElem h2, h]
    decide
  rw [this, Bool.and_false]
theorem eqW_iff {α : Type} (f : α → α → Bool) {a b : List α} : eqW f a b = true ↔ a.length = b.length ∧ ∀ i (h1 : i < a.length) (h2 : i < b.length), f a[i] b[i] = true := by
  constructor
  · intro h
    have hl : a.length = b.length := by
      by_cases e : a.length = b.length
      · exact e
      · rw [eqW_ne f e] at h; cases h
    refine ⟨hl, fun i h1 h2 => ?_⟩
    cases hx : f a[i] b[i]
    · rw [eqW_bad f i h1 h2 hx] at h; cases h
    · rfl
  · intro h; exact eqW_of f h.1 h.2
/-- Two lists are the same just if they are equal. -/
theorem eqW_eq {α : Type} (f : α → α → Bool) {a b : List α} (hf : ∀ x, x ∈ a → ∀ y, (f x y = true ↔ x = y)) : eqW f a b = true ↔ a = b := by
  rw [eqW_iff]
  constructor
  · rintro ⟨hl, h⟩
    exact List.ext_getElem hl fun i h1 h2 => (hf _ (List.getElem_mem h1) _).1 (h i h1 h2)
  · rintro rfl
    exact ⟨rfl, fun i h1 h2 => (hf _ (List.getElem_mem h1) _).2 rfl⟩

/-- Are two expressions the same? -/
noncomputable def eqE (a b : Ex) : Bool := @decide (a = b) (Classical.propDecidable _)
theorem eqE_iff (a b : Ex) : eqE a b = true ↔ a = b := @decide_eq_true_iff _ (Classical.propDecidable _)
theorem eqE_self (a : Ex) : eqE a a = true := (eqE_iff a a).2 rfl
theorem eqE_mk (k n o k' n' o' : Int) (l l' : List Ex) : eqE (.mk k n o l) (.mk k' n' o' l') = (k == k' && n == n' && o == o' && eqW eqE l l') := by
  have hW : eqW eqE l l' = true ↔ l = l' := eqW_eq eqE fun x _ y => eqE_iff x y
  rw [Bool.eq_iff_iff, eqE_iff]
  simp only [Bool.and_eq_true, beq_iff_eq, hW, Ex.mk.injEq, and_assoc]
/-- Are two instructions the same? -/
def insEq (x y : Ins) : Prop := x.op = y.op ∧ x.reg = y.reg ∧ x.v = y.v ∧ x.to = y.to ∧ x.a = y.a ∧ x.b = y.b
end Go.Proofs.YtphlbbnmligadaaGreatDoor
namespace Go.Proofs.YtphlbbnmligadaaGreatDoor
open Go.RowKit

/-- Cell j of element i of a row whose elements have sz cells each. -/
theorem flat_at {α : Type} (f : α → List Value) (sz : Nat) (hf : ∀ x, (f x).length = sz) : ∀ (l : List α) (i j : Nat) (hi : i < l.length), j < sz → (l.flatMap f)[i * sz + j]? = (f l[i])[j]?
  | [], i, j, hi, _ => by simp at hi
  | x :: l, 0, j, _, hj => by
    simp only [List.flatMap_cons, Nat.zero_mul, Nat.zero_add, List.getElem_cons_zero]
    rw [List.getElem?_append_left (by rw [hf]; exact hj)]
  | x :: l, i + 1, j, hi, hj => by
    have ih := flat_at f sz hf l i j (by simpa using hi) hj
    simp only [List.flatMap_cons, List.getElem_cons_succ]
    rw [List.getElem?_append_right (by rw [hf, Nat.succ_mul]; omega), hf, ← ih]
    congr 1
    rw [Nat.succ_mul]; omega
theorem flat_size {α : Type} (f : α → List Value) (sz : Nat) (hf : ∀ x, (f x).length = sz) (l : List α) : (l.flatMap f).length = l.length * sz := by
  induction l with
  | nil => simp
  | cons x l ih => simp only [List.flatMap_cons, List.length_append, hf, ih, List.length_cons, Nat.succ_mul]; omega
theorem flat_set {α : Type} (f : α → List Value) (sz : Nat) (hf : ∀ x, (f x).length = sz) : ∀ (l : List α) (i j : Nat) (hi : i < l.length) (y : α) (u : Value), j < sz → f y = (f l[i]).set j u → (l.flatMap f).set (i * sz + j) u = (l.set i y).flatMap f
  | [], i, j, hi, _, _, _, _ => by simp at hi
  | x :: l, 0, j, _, y, u, hj, he => by
    simp only [List.flatMap_cons, Nat.zero_mul, Nat.zero_add, List.set_cons_zero]
    rw [List.set_append_left _ _ (by rw [hf]; exact hj), he]
    rfl
  | x :: l, i + 1, j, hi, y, u, hj, he => by
    have ih := flat_set f sz hf l i j (by simpa using hi) y u hj (by simpa using he)
    simp only [List.flatMap_cons, List.set_cons_succ]
    rw [List.set_append_right _ _ (by rw [hf, Nat.succ_mul]; omega), hf, ← ih]
    congr 2
    rw [Nat.succ_mul]; omega
theorem own_at {w : World} {B : Nat} {T : TypeId} {sz n : Nat} {v : Value} {xs : List Value} (h : w.ownsRow B T sz v n xs) : ∃ a c, v = .slice a n c := by
  obtain ⟨_, h⟩ := h
  rcases h with ⟨rfl, rfl⟩ | ⟨g, cap, cur, rfl, _⟩
  · exact ⟨_, _, rfl⟩
  · exact ⟨_, _, rfl⟩
theorem own_down {w : World} {B B' : Nat} {T : TypeId} {sz n : Nat} {v : Value} {xs : List Value} (h : w.ownsRow B T sz v n xs) (hB : B' ≤ B) : w.ownsRow B' T sz v n xs := by
  obtain ⟨h0, h⟩ := h
  refine ⟨h0, ?_⟩
  rcases h with h | ⟨g, cap, cur, h1, h2, h3⟩
  · exact .inl h
  · exact .inr ⟨g, cap, cur, h1, Nat.le_trans hB h2, h3⟩
/-- An own row, as a source. -/
theorem src_own {w : World} {B : Nat} {T : TypeId} {sz n : Nat} {v : Value} {xs : List Value} (h : w.ownsRow B T sz v n xs) : ∃ A c, v = .slice A n c ∧ SrcAt w sz A n xs := by
  have h' := h
  obtain ⟨h0, h⟩ := h
  rcases h with ⟨rfl, rfl⟩ | ⟨g, cap, cur, rfl, hb, hg, hle, hcm, hsz, htk⟩
  · exact ⟨none, 0, rfl, ⟨h0, ⟨fun _ => rfl, fun ad h => by cases h⟩⟩⟩
  · refine ⟨some ⟨g, 0, none⟩, cap, rfl, ⟨h0, ⟨fun h => (by cases h), fun ad had j u hu => ?_⟩⟩⟩
    obtain rfl : (⟨g, 0, none⟩ : Addr) = ad := by simpa using had
    exact h'.cells (g := g) rfl j u hu

/-- Eight cells: two expressions'. -/
structure V8 where
  u0 : Value
  u1 : Value
  u2 : Value
  u3 : Value
  v0 : Value
  v1 : Value
  v2 : Value
  v3 : Value
/-- An instruction's cells. -/
def insC (y : Ins × V8) : List Value := [.int .i64 y.1.op, .int .i64 y.1.reg, .int .i64 y.1.v, y.2.u0, y.2.u1, y.2.u2, y.2.u3, y.2.v0, y.2.v1, y.2.v2, y.2.v3, .int .i64 y.1.to]
theorem insC_len (y : Ins × V8) : (insC y).length = 12 := rfl
def InsE (w : World) (S : Nat → Prop) (y : Ins × V8) : Prop := ExIn w S [y.2.u0, y.2.u1, y.2.u2, y.2.u3] y.1.a ∧ ExIn w S [y.2.v0, y.2.v1, y.2.v2, y.2.v3] y.1.b
theorem insC_one {w : World} {S : Nat → Prop} {l : List (Ins × V8)} (h : ∀ y ∈ l, InsE w S y) : ∀ u ∈ l.flatMap insC, u.oneCell' = true := by
  intro u hu
  obtain ⟨x, hm, hx⟩ := List.mem_flatMap.1 hu
  obtain ⟨a0, a1, a2, a3⟩ := (h x hm).1.ones
  obtain ⟨b0, b1, b2, b3⟩ := (h x hm).2.ones
  simp only [insC, List.mem_cons, List.not_mem_nil, or_false] at hx
  rcases hx with rfl | rfl | rfl | rfl | rfl | rfl | rfl | rfl | rfl | rfl | rfl | rfl <;> first | rfl | assumption

namespace InsO
variable {w w' : World} {B : Nat} {S S' : Nat → Prop} {v v' : Value} {L : List Ins}
end InsO

/-- Instructions lie where a slice leads: a source of append. -/
def InsSrc (w : World) (S : Nat → Prop) (u : Value) (N : List Ins) : Prop :=
  ∃ A c, ∃ NN : List (Ins × V8), u = .slice A NN.length c ∧ SrcAt w 12 A NN.length (NN.flatMap insC) ∧ (∀ y ∈ NN, InsE w S y) ∧ N = NN.map (·.1)
theorem InsE.grown {w w' : World} {S : Nat → Prop} {y : Ins × V8} {r : Option Nat} (h : InsE w S y) (hg : w.grownBy w' r) (hS : ∀ b, S b → b < w.heap.size ∧ some b ≠ r) : InsE w' S y :=
  have hk : ∀ b o, S b → w'.cell? ⟨b, o, none⟩ = w.cell? ⟨b, o, none⟩ := fun b _ hb => World.cell?_of_block (hg.block b (hS b hb).1 (hS b hb).2)
  ⟨h.1.keep hk, h.2.keep hk⟩
theorem InsE.alloc {w : World} {S : Nat → Prop} {y : Ins × V8} (h : InsE w S y) (hS : ∀ b, S b → b < w.heap.size) (o : Obj) : InsE (w.alloc o) S y :=
  h.grown (World.grownBy_alloc w o none) fun b hb => ⟨hS b hb, by simp⟩
/-- A new block that holds one instruction. -/
theorem InsSrc.lit {w : World} {S : Nat → Prop} {y : Ins × V8} {T : TypeId} (h : InsE w S y) (hS : ∀ b, S b → b < w.heap.size) : InsSrc (w.alloc (.cells (insC y).toArray T)) S (.slice (some ⟨w.heap.size, 0, none⟩) 1 1) [y.1] :=
  ⟨some ⟨w.heap.size, 0, none⟩, 1, [y], rfl, by simpa using src_new (w := w) (T := T) (size := 12) (m := 1) (news := insC y) rfl, fun z hz => by simp at hz; subst hz; exact h.alloc hS _, rfl⟩
end Go.Proofs.YtphlbbnmligadaaGreatDoor
namespace Go.Proofs.YtphlbbnmligadaaGreatDoor
open Go.RowKit

/-- A statement's thirteen cells. -/
def stC (y : St × (Nat → Value)) : List Value := (List.range 13).map y.2
theorem stC_len (y : St × (Nat → Value)) : (stC y).length = 13 := by simp [stC]
theorem stC_of {cs : List Value} (h : cs.length = 13) (x : St) : stC (x, fun i => cs[i]?.getD default) = cs := by
  apply List.ext_getElem
  · rw [stC_len, h]
  · intro i h1 h2
    simp [stC, List.getElem?_eq_getElem h2]
theorem StIn.len {w : World} {S : Nat → Prop} {cs : List Value} {x : St} (h : StIn w S cs x) : cs.length = 13 := by cases h; rfl
theorem StIn.ones {w : World} {S : Nat → Prop} {cs : List Value} {x : St} (h : StIn w S cs x) : ∀ u ∈ cs, u.oneCell' = true := by
  cases h with
  | mk _ _ _ _ _ _ _ _ _ _ _ _ _ _ _ _ _ _ _ _ _ _ _ _ ha hb =>
    obtain ⟨a0, a1, a2, a3⟩ := ha.ones
    obtain ⟨b0, b1, b2, b3⟩ := hb.ones
    intro u hu
    simp only [List.mem_cons, List.not_mem_nil, or_false] at hu
    rcases hu with rfl | rfl | rfl | rfl | rfl | rfl | rfl | rfl | rfl | rfl | rfl | rfl | rfl <;> first | rfl | assumption
theorem stC_one {w : World} {S : Nat → Prop} {l : List (St × (Nat → Value))} (h : ∀ y ∈ l, StIn w S (stC y) y.1) : ∀ u ∈ l.flatMap stC, u.oneCell' = true := by
  intro u hu
  obtain ⟨x, hm, hx⟩ := List.mem_flatMap.1 hu
  exact (h x hm).ones u hx

theorem st_info : (Tryz.prog.info? 56).map (fun i => (i.zero, i.size, i.bytes)) = some (some (.agg #[.int .i64 0, .int .i64 0, .int .i64 0, .int .i64 0, .int .i64 0, .int .u8 0, .slice none 0 0, .int .i64 0, .int .i64 0, .int .u8 0, .slice none 0 0, .slice none 0 0, .slice none 0 0]), 13, 168) := by kernel_rfl
theorem info_parts_st : ∃ i, Tryz.prog.info? 56 = some i ∧ i.zero = some (.agg #[.int .i64 0, .int .i64 0, .int .i64 0, .int .i64 0, .int .i64 0, .int .u8 0, .slice none 0 0, .int .i64 0, .int .i64 0, .int .u8 0, .slice none 0 0, .slice none 0 0, .slice none 0 0]) ∧ i.size = 13 ∧ i.bytes = 168 := by
  have h := st_info
  cases hi : Tryz.prog.info? 56 with
  | none => rw [hi] at h; cases h
  | some i =>
    rw [hi] at h
    simp only [Option.map_some, Option.some.injEq, Prod.mk.injEq] at h
    exact ⟨i, rfl, h.1, h.2.1, h.2.2⟩
/-- append of statements. -/
theorem list_st {ops : Array Oper} {rest : List Oper} {o : Oper} {a : Act} {w : World} {base : Nat} {Q : Exit → Act → World → Prop} (s x : Operand) (v : Value) (n : Nat) (xs : List Value) (m : Nat) (news : List Value)
    (hgd : o.guard = none) (ho : o.op = .call { callee := .builtin .append, args := #[s, x], argTypes := #[53, 53] })
    (hsv : a.eval s = v) (hown : w.ownsRow base 56 13 v n xs) (hsrc : ∃ A c, a.eval x = .slice A m c ∧ SrcAt w 13 A m news) (h1 : ∀ u ∈ news, u.oneCell' = true) (hb : n + m ≤ 100000) (hbase : base ≤ w.heap.size)
    (h : ∀ v' w', w'.ownsRow base 56 13 v' (n + m) (xs ++ news) → w.grownBy w' v.ownBlock → (v'.ownBlock = v.ownBlock ∨ v'.ownBlock = some w.heap.size) → wpList Tryz.prog ops Q rest (a.put o.dst v') w') :
    wpList Tryz.prog ops Q (o :: rest) a w := by
  obtain ⟨i0, hi, hz0, hz1, hz2⟩ := info_parts_st
  exact list_app hgd s x ho Tryz.underlying53 hi hz0 hz1 hz2 rfl (by decide) v n xs hsv hown m news hsrc h1 (by simp only [maxLen]; omega) (by omega) hbase h

/-- Statements that have been collected: a row of the call's own. -/
def StO (w : World) (B : Nat) (S : Nat → Prop) (v : Value) (L : List St) : Prop :=
  ∃ LL : List (St × (Nat → Value)), L = LL.map (·.1) ∧ w.ownsRow B 56 13 v LL.length (LL.flatMap stC) ∧ ∀ y ∈ LL, StIn w S (stC y) y.1
namespace StO
variable {w w' : World} {B : Nat} {S S' : Nat → Prop} {v v' : Value} {L : List St}
theorem nil_ : StO w B S (.slice none 0 0) [] := ⟨[], rfl, World.ownsRow_nil _ _ _ _, fun _ h => (by simp at h)⟩
theorem own (h : StO w B S v L) : ∀ k, v.ownBlock = some k → B ≤ k ∧ k < w.heap.size := by
  obtain ⟨LL, _, h1, _⟩ := h
  exact h1.lt
theorem sl (h : StO w B S v L) : ∃ a c, v = .slice a L.length c := by
  obtain ⟨LL, rfl, h1, _⟩ := h
  obtain ⟨a, c, e⟩ := own_at h1
  exact ⟨a, c, by rw [e, List.length_map]⟩
/-- Kept while other blocks are written. -/
theorem kept {r : Option Nat} (h : StO w B S v L) (hg : w.grownBy w' r) (hr : v.ownBlock = none ∨ v.ownBlock ≠ r) (hS : ∀ b, S b → b < w.heap.size ∧ some b ≠ r) : StO w' B S v L := by
  obtain ⟨LL, h0, h1, h2⟩ := h
  have hk : ∀ b o, S b → w'.cell? ⟨b, o, none⟩ = w.cell? ⟨b, o, none⟩ := fun b o hb => World.cell?_of_block (hg.block b (hS b hb).1 (hS b hb).2)
  exact ⟨LL, h0, h1.kept hg (by rcases hr with h | h; exact .inl h; exact .inr h), fun y hy => (h2 y hy).keep hk⟩
theorem widen (h : StO w B S v L) (hS : ∀ b, S b → S' b) : StO w B S' v L := by
  obtain ⟨LL, h0, h1, h2⟩ := h
  exact ⟨LL, h0, h1, fun y hy => (h2 y hy).widen hS⟩
/-- As a row. -/
theorem row (h : StO w B S v L) : ∃ a cap, v = .slice a L.length cap ∧ StRow w (fun b => S b ∨ (B ≤ b ∧ b < w.heap.size)) a L.length cap L := by
  obtain ⟨LL, rfl, h1, h2⟩ := h
  have h' := h1
  obtain ⟨_, h⟩ := h1
  rcases h with ⟨rfl, h0⟩ | ⟨g, cap, cur, rfl, hb, hg, hle, hcm, hsz, htk⟩
  · have : LL = [] := List.eq_nil_of_length_eq_zero h0
    subst this
    exact ⟨none, 0, rfl, StRow.nil_⟩
  · refine ⟨some ⟨g, 0, none⟩, cap, by simp, rfl, fun i => (LL[i]?.map stC).getD [], ?_, fun i hi => ?_⟩
    · rw [List.length_map]
      refine ⟨hle, hcm, fun _ => ⟨g, 0, rfl, .inr ⟨hb, (Array.getElem?_eq_some_iff.1 hg).1⟩, fun i hi j hj => ?_⟩⟩
      have hfl := flat_at stC 13 stC_len LL i j hi hj
      simp only [List.getElem?_eq_getElem hi, Option.map_some, Option.getD_some]
      have hlt : j < (stC LL[i]).length := by rw [stC_len]; exact hj
      rw [List.getElem?_eq_getElem hlt] at hfl ⊢
      have := h'.cells (g := g) rfl _ _ hfl
      have hadd : (⟨g, 0, none⟩ : Addr).add (i * 13 + j) = ⟨g, 0 + (i * 13 + j), none⟩ := by
        unfold Addr.add
        split
        · rename_i h; rw [h]
        · simp
      rwa [hadd] at this
    · have hi' : i < LL.length := by simpa using hi
      simp only [List.getElem?_eq_getElem hi', Option.map_some, Option.getD_some, List.getElem_map]
      exact (h2 LL[i] (List.getElem_mem hi')).widen fun b hb => .inl hb
end StO

/-- One more statement, out of a new block. -/
theorem list_stO {ops : Array Oper} {rest : List Oper} {o : Oper} {a : Act} {w : World} {base : Nat} {S : Nat → Prop} {Q : Exit → Act → World → Prop} (s x : Operand) (v : Value) (L : List St) (y : St) (cs : List Value) {T : TypeId}
    (hgd : o.guard = none) (ho : o.op = .call { callee := .builtin .append, args := #[s, x], argTypes := #[53, 53] })
    (hsv : a.eval s = v) (hx : a.eval x = .slice (some ⟨w.heap.size, 0, none⟩) 1 1) (hown : StO w base S v L) (hy : StIn w S cs y) (hb : L.length + 1 ≤ 100000) (hbase : base ≤ w.heap.size) (hS : ∀ b, S b → b < w.heap.size ∧ some b ≠ v.ownBlock)
    (h : ∀ A c w', StO w' base S (.slice A (L.length + 1) c) (L ++ [y]) → (w.alloc (.cells cs.toArray T)).grownBy w' v.ownBlock → ((Value.slice A (L.length + 1) c).ownBlock = v.ownBlock ∨ (Value.slice A (L.length + 1) c).ownBlock = some (w.heap.size + 1)) → wpList Tryz.prog ops Q rest (a.put o.dst (.slice A (L.length + 1) c)) w') :
    wpList Tryz.prog ops Q (o :: rest) a (w.alloc (.cells cs.toArray T)) := by
  have hlen := hy.len
  have hones := hy.ones
  have hown1 : StO (w.alloc (.cells cs.toArray T)) base S v L := hown.kept (World.grownBy_alloc w _ none) (by cases v.ownBlock <;> simp) fun b hb => ⟨(hS b hb).1, by simp⟩
  have hy1 : StIn (w.alloc (.cells cs.toArray T)) S cs y := hy.keep fun b o hb => World.cell?_alloc_lt _ _ _ (hS b hb).1
  obtain ⟨LL, rfl, h1, h2⟩ := hown1
  rw [List.length_map] at hb h
  refine list_st s x v LL.length (LL.flatMap stC) 1 cs hgd ho hsv h1 ⟨_, _, hx, src_new (by rw [hlen])⟩ hones hb (by simp; omega) fun v' w' g1 g2 g3 => ?_
  obtain ⟨A', c', rfl⟩ := own_at g1
  have hk : ∀ b o, S b → w'.cell? ⟨b, o, none⟩ = (w.alloc (.cells cs.toArray T)).cell? ⟨b, o, none⟩ := fun b o hb => World.cell?_of_block (g2.block b (by have := (hS b hb).1; simp; omega) (hS b hb).2)
  refine h A' c' w' ⟨LL ++ [(y, fun i => cs[i]?.getD default)], by simp, ?_, fun z hz => ?_⟩ g2 (by simpa using g3)
  · rw [List.length_append, List.flatMap_append]
    have : [(y, fun i => cs[i]?.getD default)].flatMap stC = cs := by simp [stC_of hlen]
    rw [this]
    exact g1
  · rcases List.mem_append.1 hz with hz | hz
    · exact (h2 z hz).keep hk
    · simp only [List.mem_singleton] at hz
      subst hz
      rw [stC_of hlen]
      exact hy1.keep hk
end Go.Proofs.YtphlbbnmligadaaGreatDoor
