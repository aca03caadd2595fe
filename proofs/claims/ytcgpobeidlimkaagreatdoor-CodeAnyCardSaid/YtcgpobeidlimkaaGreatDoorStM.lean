/- Statements in memory. No program in sight. -/
import Derived.Test.YtcgpobeidlimkaaGreatDoorTreD
import Derived.Test.YtcgpobeidlimkaaGreatDoorKp
namespace Go.Proofs.YtcgpobeidlimkaaGreatDoor
open Go.RowKit

/-- A statement: kind, register, variable, two expressions, statements within. -/
inductive St where
  | mk (k r v : Int) (a b : Ex) (t e : List St)

namespace St
def kind : St → Int | mk k _ _ _ _ _ _ => k
def reg : St → Int | mk _ r _ _ _ _ _ => r
def var : St → Int | mk _ _ v _ _ _ _ => v
def a : St → Ex | mk _ _ _ a _ _ _ => a
def b : St → Ex | mk _ _ _ _ b _ _ => b
def t : St → List St | mk _ _ _ _ _ t _ => t
def e : St → List St | mk _ _ _ _ _ _ e => e

theorem ind {P : St → Prop} (h : ∀ k r v a b t e, (∀ x, x ∈ t → P x) → (∀ x, x ∈ e → P x) → P (mk k r v a b t e)) : ∀ x, P x
  | mk k r v a b t e => h k r v a b t e (fun x _hx => ind h x) (fun x _hx => ind h x)
termination_by x => SizeOf.sizeOf x
decreasing_by
  all_goals
    have := List.sizeOf_lt_of_mem _hx
    simp only [mk.sizeOf_spec]; omega
end St

/-- A statement lies in 'w', its parts in blocks of S: its thirteen cells. -/
inductive StIn (w : World) (S : Nat → Prop) : List Value → St → Prop
  | mk (k r v : Int) (u0 u1 u2 u3 v0 v1 v2 v3 : Value) (a b : Ex) (ta ea : Option Addr) (tc ec : Nat) (t e : List St) (ct ce : Nat → List Value)
      (wk : (Lit.int .i64 k).wf = true) (wr : (Lit.int .i64 r).wf = true) (wv : (Lit.int .i64 v).wf = true)
      (ha : ExIn w S [u0, u1, u2, u3] a) (hb : ExIn w S [v0, v1, v2, v3] b)
      (ht : Sl w S 13 ta t.length tc ct) (he : Sl w S 13 ea e.length ec ce)
      (htk : ∀ i (h : i < t.length), StIn w S (ct i) t[i]) (hek : ∀ i (h : i < e.length), StIn w S (ce i) e[i]) :
      StIn w S [.int .i64 k, .int .i64 r, .int .i64 v, u0, u1, u2, u3, v0, v1, v2, v3, .slice ta t.length tc, .slice ea e.length ec] (.mk k r v a b t e)

/-- A row of statements. -/
def StRow (w : World) (S : Nat → Prop) (a : Option Addr) (n cap : Nat) (l : List St) : Prop :=
  n = l.length ∧ ∃ C : Nat → List Value, Sl w S 13 a l.length cap C ∧ ∀ i (h : i < l.length), StIn w S (C i) l[i]

namespace StIn
variable {w w' : World} {S S' : Nat → Prop} {cs : List Value} {x : St}
theorem keep (h : StIn w S cs x) (hk : ∀ b o, S b → w'.cell? ⟨b, o, none⟩ = w.cell? ⟨b, o, none⟩) : StIn w' S cs x := by
  induction h with
  | mk k r v u0 u1 u2 u3 v0 v1 v2 v3 a b ta ea tc ec t e ct ce wk wr wv ha hb ht he _ _ iht ihe =>
    exact .mk k r v u0 u1 u2 u3 v0 v1 v2 v3 a b ta ea tc ec t e ct ce wk wr wv (ha.keep hk) (hb.keep hk) (ht.keep hk) (he.keep hk) (fun i hi => iht i hi) (fun i hi => ihe i hi)
theorem widen (h : StIn w S cs x) (hS : ∀ b, S b → S' b) : StIn w S' cs x := by
  induction h with
  | mk k r v u0 u1 u2 u3 v0 v1 v2 v3 a b ta ea tc ec t e ct ce wk wr wv ha hb ht he _ _ iht ihe =>
    exact .mk k r v u0 u1 u2 u3 v0 v1 v2 v3 a b ta ea tc ec t e ct ce wk wr wv (ha.widen hS) (hb.widen hS) (ht.widen hS) (he.widen hS) (fun i hi => iht i hi) (fun i hi => ihe i hi)
theorem open_ {k r v : Int} {a b : Ex} {t e : List St} (h : StIn w S cs (.mk k r v a b t e)) :
    ∃ u0 u1 u2 u3 v0 v1 v2 v3 ta ea tc ec, cs = [.int .i64 k, .int .i64 r, .int .i64 v, u0, u1, u2, u3, v0, v1, v2, v3, .slice ta t.length tc, .slice ea e.length ec] ∧
      ExIn w S [u0, u1, u2, u3] a ∧ ExIn w S [v0, v1, v2, v3] b ∧ StRow w S ta t.length tc t ∧ StRow w S ea e.length ec e := by
  cases h with
  | mk _ _ _ u0 u1 u2 u3 v0 v1 v2 v3 _ _ ta ea tc ec _ _ ct ce wk wr wv ha hb ht he htk hek =>
    exact ⟨u0, u1, u2, u3, v0, v1, v2, v3, ta, ea, tc, ec, rfl, ha, hb, ⟨rfl, ct, ht, htk⟩, ⟨rfl, ce, he, hek⟩⟩
theorem wf (h : StIn w S cs x) : (Lit.int .i64 x.kind).wf = true ∧ (Lit.int .i64 x.reg).wf = true ∧ (Lit.int .i64 x.var).wf = true := by
  cases h with
  | mk _ _ _ _ _ _ _ _ _ _ _ _ _ _ _ _ _ _ _ _ _ wk wr wv => exact ⟨wk, wr, wv⟩
end StIn

theorem ExIn.ones {w : World} {S : Nat → Prop} {u0 u1 u2 u3 : Value} {x : Ex} (h : ExIn w S [u0, u1, u2, u3] x) : u0.oneCell' = true ∧ u1.oneCell' = true ∧ u2.oneCell' = true ∧ u3.oneCell' = true := by
  cases h with
  | mk => exact ⟨rfl, rfl, rfl, rfl⟩

namespace StRow
variable {w w' : World} {S S' : Nat → Prop} {a : Option Addr} {n cap : Nat} {l : List St}
theorem keep (h : StRow w S a n cap l) (hk : ∀ b o, S b → w'.cell? ⟨b, o, none⟩ = w.cell? ⟨b, o, none⟩) : StRow w' S a n cap l := by
  obtain ⟨hn, C, h1, h2⟩ := h
  exact ⟨hn, C, h1.keep hk, fun i hi => (h2 i hi).keep hk⟩
theorem widen (h : StRow w S a n cap l) (hS : ∀ b, S b → S' b) : StRow w S' a n cap l := by
  obtain ⟨hn, C, h1, h2⟩ := h
  exact ⟨hn, C, h1.widen hS, fun i hi => (h2 i hi).widen hS⟩
theorem le (h : StRow w S a n cap l) : l.length ≤ cap := h.2.choose_spec.1.le
theorem mx (h : StRow w S a n cap l) : cap ≤ maxLen := h.2.choose_spec.1.mx
theorem nil_ : StRow w S none 0 0 [] := ⟨rfl, fun _ => [], Sl.nil, fun i hi => absurd hi (by simp)⟩
/-- What lies at an index. -/
theorem at_ (h : StRow w S a n cap l) (i : Nat) (hi : i < l.length) : ∃ b off u0 u1 u2 u3 v0 v1 v2 v3 ta ea tc ec, a = some ⟨b, off, none⟩ ∧ S b ∧
    (w.cell? ⟨b, off + i * 13, none⟩ = some (.int .i64 l[i].kind) ∧ w.cell? ⟨b, off + i * 13 + 1, none⟩ = some (.int .i64 l[i].reg) ∧ w.cell? ⟨b, off + i * 13 + 2, none⟩ = some (.int .i64 l[i].var)) ∧
    (w.cell? ⟨b, off + i * 13 + 3, none⟩ = some u0 ∧ w.cell? ⟨b, off + i * 13 + 4, none⟩ = some u1 ∧ w.cell? ⟨b, off + i * 13 + 5, none⟩ = some u2 ∧ w.cell? ⟨b, off + i * 13 + 6, none⟩ = some u3) ∧
    (w.cell? ⟨b, off + i * 13 + 7, none⟩ = some v0 ∧ w.cell? ⟨b, off + i * 13 + 8, none⟩ = some v1 ∧ w.cell? ⟨b, off + i * 13 + 9, none⟩ = some v2 ∧ w.cell? ⟨b, off + i * 13 + 10, none⟩ = some v3) ∧
    (w.cell? ⟨b, off + i * 13 + 11, none⟩ = some (.slice ta l[i].t.length tc) ∧ w.cell? ⟨b, off + i * 13 + 12, none⟩ = some (.slice ea l[i].e.length ec)) ∧
    (ExIn w S [u0, u1, u2, u3] l[i].a ∧ ExIn w S [v0, v1, v2, v3] l[i].b ∧ StRow w S ta l[i].t.length tc l[i].t ∧ StRow w S ea l[i].e.length ec l[i].e) ∧
    StIn w S [.int .i64 l[i].kind, .int .i64 l[i].reg, .int .i64 l[i].var, u0, u1, u2, u3, v0, v1, v2, v3, .slice ta l[i].t.length tc, .slice ea l[i].e.length ec] l[i] := by
  obtain ⟨hn, C, h1, h2⟩ := h
  obtain ⟨b, off, rfl, hb, hc⟩ := h1.at_ (by omega)
  have hin := h2 i hi
  have g := fun j hj => hc i hi j hj
  clear hc h2 h1
  rcases hx : l[i] with ⟨k, r, v, xa, xb, t, e⟩
  rw [hx] at hin
  obtain ⟨u0, u1, u2, u3, v0, v1, v2, v3, ta, ea, tc, ec, he, ha, hbb, ht, hee⟩ := hin.open_
  rw [he] at hin
  simp only [he] at g
  simp only [St.kind, St.reg, St.var, St.a, St.b, St.t, St.e]
  refine ⟨b, off, u0, u1, u2, u3, v0, v1, v2, v3, ta, ea, tc, ec, rfl, hb, ⟨?_, ?_, ?_⟩, ⟨?_, ?_, ?_, ?_⟩, ⟨?_, ?_, ?_, ?_⟩, ⟨?_, ?_⟩, ⟨ha, hbb, ht, hee⟩, hin⟩
  · simpa using g 0 (by omega)
  · simpa [Nat.add_assoc] using g 1 (by omega)
  · simpa [Nat.add_assoc] using g 2 (by omega)
  · simpa [Nat.add_assoc] using g 3 (by omega)
  · simpa [Nat.add_assoc] using g 4 (by omega)
  · simpa [Nat.add_assoc] using g 5 (by omega)
  · simpa [Nat.add_assoc] using g 6 (by omega)
  · simpa [Nat.add_assoc] using g 7 (by omega)
  · simpa [Nat.add_assoc] using g 8 (by omega)
  · simpa [Nat.add_assoc] using g 9 (by omega)
  · simpa [Nat.add_assoc] using g 10 (by omega)
  · simpa [Nat.add_assoc] using g 11 (by omega)
  · simpa [Nat.add_assoc] using g 12 (by omega)
end StRow
theorem Kp.st {W0 w : World} (h : Kp W0 w) {cs : List Value} {x : St} (hx : StIn W0 (In_ W0) cs x) : StIn w (In_ w) cs x := (hx.keep fun b o hb => h.2 b o hb).widen (In_.mono h.1.size)
theorem Kp.strow {W0 w : World} (h : Kp W0 w) {a : Option Addr} {n cap : Nat} {l : List St} (hx : StRow W0 (In_ W0) a n cap l) : StRow w (In_ w) a n cap l := (hx.keep fun b o hb => h.2 b o hb).widen (In_.mono h.1.size)

/-- What a kind has within. -/
def h4 (k : Int) : Bool := k == 10 || k == 11
def h5 (k : Int) : Bool := k == 10
/-- How many statements there are, within and all. -/
def cntS : St → Nat
  | .mk _ _ _ _ _ t e => 1 + (t.attach.map fun x => cntS x.1).sum + (e.attach.map fun x => cntS x.1).sum
termination_by x => SizeOf.sizeOf x
decreasing_by
  all_goals
    have := List.sizeOf_lt_of_mem x.2
    simp only [St.mk.sizeOf_spec]; omega
def cntL (l : List St) : Nat := (l.map cntS).sum
theorem cntS_mk (k r v : Int) (a b : Ex) (t e : List St) : cntS (.mk k r v a b t e) = 1 + cntL t + cntL e := by
  rw [cntS, List.attach_map_val (f := cntS), List.attach_map_val (f := cntS)]
  rfl
theorem cntS_eq (x : St) : cntS x = 1 + cntL x.t + cntL x.e := by
  rcases x with ⟨k, r, v, a, b, t, e⟩
  exact cntS_mk k r v a b t e
/-- May a statement be, within so many others, but for how many there are? -/
def okS (vars dom : Int) : Nat → St → Bool
  | 0, _ => false
  | deep + 1, .mk k r v a b t e => decide (1 ≤ k) && decide (k ≤ 11) && partL k r v a b vars dom && (h4 k || t.isEmpty) && (h5 k || e.isEmpty) && t.all (okS vars dom deep) && e.all (okS vars dom deep)
def okL (vars dom : Int) (deep : Nat) (l : List St) : Bool := l.all (okS vars dom deep)
def okF (vars dom : Int) (deep : Nat) (x : St) : Bool := decide (1 ≤ x.kind) && decide (x.kind ≤ 11) && partL x.kind x.reg x.var x.a x.b vars dom && (h4 x.kind || x.t.isEmpty) && (h5 x.kind || x.e.isEmpty) && okL vars dom deep x.t && okL vars dom deep x.e
theorem okS_succ (vars dom : Int) (deep : Nat) (x : St) : okS vars dom (deep + 1) x = okF vars dom deep x := by
  rcases x with ⟨k, r, v, a, b, t, e⟩
  rfl
theorem okF_mk (vars dom : Int) (deep : Nat) (k r v : Int) (a b : Ex) (t e : List St) : okF vars dom deep (.mk k r v a b t e) = (decide (1 ≤ k) && decide (k ≤ 11) && partL k r v a b vars dom && (h4 k || t.isEmpty) && (h5 k || e.isEmpty) && okL vars dom deep t && okL vars dom deep e) := rfl
/-- .. and of at most 200, some of which there have been. -/
def sumB (vars dom : Int) (deep : Nat) (l : List St) (many : Nat) : Bool := okL vars dom deep l && decide (many + cntL l ≤ 200)

theorem okL_take {vars dom : Int} {deep : Nat} {l : List St} {i : Nat} (hi : i < l.length) (h : okS vars dom deep l[i] = false) : okL vars dom deep l = false := by
  unfold okL
  rw [Bool.eq_false_iff]
  intro hh
  have := List.all_eq_true.1 hh l[i] (List.getElem_mem hi)
  rw [h] at this
  cases this
theorem cntL_take (l : List St) (i : Nat) (hi : i < l.length) : cntL (l.take (i + 1)) = cntL (l.take i) + cntS l[i] := by
  unfold cntL
  rw [List.take_succ_eq_append_getElem hi, List.map_append, List.sum_append]
  simp
theorem cntL_le (l : List St) (i : Nat) : cntL (l.take i) ≤ cntL l := by
  unfold cntL
  conv => rhs; rw [← List.take_append_drop i l, List.map_append, List.sum_append]
  omega
theorem okL_step {vars dom : Int} {deep : Nat} {l : List St} {i : Nat} (hi : i < l.length) (h : okL vars dom deep (l.take i) = true) (hx : okS vars dom deep l[i] = true) : okL vars dom deep (l.take (i + 1)) = true := by
  unfold okL at *
  rw [List.take_succ_eq_append_getElem hi, List.all_append, h]
  simp [hx]
theorem cnt_pos (x : St) : 1 ≤ cntS x := by rw [cntS_eq]; omega
end Go.Proofs.YtcgpobeidlimkaaGreatDoor
