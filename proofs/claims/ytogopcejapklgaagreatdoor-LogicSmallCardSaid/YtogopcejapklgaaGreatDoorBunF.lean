/- Formulas in memory. No program in sight. -/
import Derived.Test.YtogopcejapklgaaGreatDoorBunG
import Derived.Test.YtogopcejapklgaaGreatDoorBunM
import Derived.Lib.Join
namespace Go.Proofs.YtogopcejapklgaaGreatDoor
open Go.RowKit

def Pr.wf (p : Pr) : Prop := (Lit.int .i64 p.k).wf = true ∧ (Lit.int .i64 p.t).wf = true ∧ (Lit.int .i64 p.a).wf = true ∧ (Lit.int .i64 p.n).wf = true
/-- A formula's six cells. -/
abbrev fmC (k : Int) (p : Pr) (a : Option Addr) (n cap : Nat) : List Value := [.int .i64 k, .int .i64 p.k, .int .i64 p.t, .int .i64 p.a, .int .i64 p.n, .slice a n cap]
/-- A formula lies in 'w', its parts in blocks of S: its six cells. -/
inductive FmIn (w : World) (S : Nat → Prop) : List Value → Fm → Prop
  | mk (k : Int) (p : Pr) (a : Option Addr) (cap : Nat) (l : List Fm) (C : Nat → List Value)
      (wk : (Lit.int .i64 k).wf = true) (wp : p.wf) (hs : Sl w S 6 a l.length cap C)
      (hk : ∀ i (h : i < l.length), FmIn w S (C i) l[i]) :
      FmIn w S [.int .i64 k, .int .i64 p.k, .int .i64 p.t, .int .i64 p.a, .int .i64 p.n, .slice a l.length cap] (.mk k p l)
/-- A row of formulas. -/
def FmRow (w : World) (S : Nat → Prop) (a : Option Addr) (n cap : Nat) (l : List Fm) : Prop :=
  n = l.length ∧ ∃ C : Nat → List Value, Sl w S 6 a l.length cap C ∧ ∀ i (h : i < l.length), FmIn w S (C i) l[i]
namespace FmIn
variable {w w' : World} {S S' : Nat → Prop} {cs : List Value} {x : Fm}
theorem keep (h : FmIn w S cs x) (hk : ∀ b o, S b → w'.cell? ⟨b, o, none⟩ = w.cell? ⟨b, o, none⟩) : FmIn w' S cs x := by
  induction h with
  | mk k p a cap l C wk wp hs _ ih => exact .mk k p a cap l C wk wp (hs.keep hk) (fun i hi => ih i hi)
theorem widen (h : FmIn w S cs x) (hS : ∀ b, S b → S' b) : FmIn w S' cs x := by
  induction h with
  | mk k p a cap l C wk wp hs _ ih => exact .mk k p a cap l C wk wp (hs.widen hS) (fun i hi => ih i hi)
theorem open_ {k : Int} {p : Pr} {l : List Fm} (h : FmIn w S cs (.mk k p l)) : ∃ a cap, cs = fmC k p a l.length cap ∧ (Lit.int .i64 k).wf = true ∧ p.wf ∧ FmRow w S a l.length cap l := by
  cases h with
  | mk _ _ a cap _ C wk wp hs hk => exact ⟨a, cap, rfl, wk, wp, rfl, C, hs, hk⟩
theorem shut {k : Int} {p : Pr} {l : List Fm} {a : Option Addr} {cap : Nat} (wk : (Lit.int .i64 k).wf = true) (wp : p.wf) (h : FmRow w S a l.length cap l) : FmIn w S (fmC k p a l.length cap) (.mk k p l) := by
  obtain ⟨-, C, hs, hk⟩ := h
  exact .mk k p a cap l C wk wp hs hk
theorem six (h : FmIn w S cs x) : ∃ a cap, cs = fmC x.kind x.prop a x.kids.length cap ∧ FmRow w S a x.kids.length cap x.kids := by
  obtain ⟨k, p, l⟩ := x
  obtain ⟨a, cap, h1, -, -, h4⟩ := h.open_
  exact ⟨a, cap, h1, h4⟩
theorem ones (h : FmIn w S cs x) : cs.length = 6 ∧ ∀ u ∈ cs, u.oneCell' = true := by
  cases h with
  | mk => exact ⟨rfl, by simp [Value.oneCell']⟩
end FmIn
namespace FmRow
variable {w w' : World} {S S' : Nat → Prop} {a : Option Addr} {n cap : Nat} {l : List Fm}
theorem keep (h : FmRow w S a n cap l) (hk : ∀ b o, S b → w'.cell? ⟨b, o, none⟩ = w.cell? ⟨b, o, none⟩) : FmRow w' S a n cap l := by
  obtain ⟨hn, C, h1, h2⟩ := h
  exact ⟨hn, C, h1.keep hk, fun i hi => (h2 i hi).keep hk⟩
theorem widen (h : FmRow w S a n cap l) (hS : ∀ b, S b → S' b) : FmRow w S' a n cap l := by
  obtain ⟨hn, C, h1, h2⟩ := h
  exact ⟨hn, C, h1.widen hS, fun i hi => (h2 i hi).widen hS⟩
theorem le (h : FmRow w S a n cap l) : l.length ≤ cap := h.2.choose_spec.1.le
theorem mx (h : FmRow w S a n cap l) : cap ≤ maxLen := h.2.choose_spec.1.mx
theorem nil_ : FmRow w S none 0 0 [] := ⟨rfl, fun _ => [], Sl.nil, fun i hi => absurd hi (by simp)⟩
/-- What lies at an index. -/
theorem at_ (h : FmRow w S a n cap l) (i : Nat) (hi : i < l.length) : ∃ b off ka kc, a = some ⟨b, off, none⟩ ∧ S b ∧
    (w.cell? ⟨b, off + i * 6, none⟩ = some (.int .i64 l[i].kind) ∧ w.cell? ⟨b, off + i * 6 + 1, none⟩ = some (.int .i64 l[i].prop.k) ∧ w.cell? ⟨b, off + i * 6 + 2, none⟩ = some (.int .i64 l[i].prop.t) ∧
     w.cell? ⟨b, off + i * 6 + 3, none⟩ = some (.int .i64 l[i].prop.a) ∧ w.cell? ⟨b, off + i * 6 + 4, none⟩ = some (.int .i64 l[i].prop.n) ∧ w.cell? ⟨b, off + i * 6 + 5, none⟩ = some (.slice ka l[i].kids.length kc)) ∧
    FmRow w S ka l[i].kids.length kc l[i].kids ∧ FmIn w S (fmC l[i].kind l[i].prop ka l[i].kids.length kc) l[i] := by
  obtain ⟨hn, C, h1, h2⟩ := h
  obtain ⟨b, off, rfl, hb, hc⟩ := h1.at_ (by omega)
  have hin := h2 i hi
  have g := fun j hj => hc i hi j hj
  clear hc h2 h1
  obtain ⟨ka, kc, he, hr⟩ := hin.six
  rw [he] at hin
  simp only [he] at g
  refine ⟨b, off, ka, kc, rfl, hb, ⟨?_, ?_, ?_, ?_, ?_, ?_⟩, hr, hin⟩
  · simpa using g 0 (by omega)
  · simpa [Nat.add_assoc] using g 1 (by omega)
  · simpa [Nat.add_assoc] using g 2 (by omega)
  · simpa [Nat.add_assoc] using g 3 (by omega)
  · simpa [Nat.add_assoc] using g 4 (by omega)
  · simpa [Nat.add_assoc] using g 5 (by omega)
end FmRow
theorem Kp.fm {W0 w : World} (h : Kp W0 w) {cs : List Value} {x : Fm} (hx : FmIn W0 (In_ W0) cs x) : FmIn w (In_ w) cs x := (hx.keep fun b o hb => h.2 b o hb).widen (In_.mono h.1.size)
theorem Kp.fmrow {W0 w : World} (h : Kp W0 w) {a : Option Addr} {n cap : Nat} {l : List Fm} (hx : FmRow W0 (In_ W0) a n cap l) : FmRow w (In_ w) a n cap l := (hx.keep fun b o hb => h.2 b o hb).widen (In_.mono h.1.size)

/-- The same formula. -/
def eqP (p q : Pr) : Bool := p.k == q.k && p.t == q.t && p.a == q.a && p.n == q.n
theorem eqP_iff {p q : Pr} : eqP p q = true ↔ p = q := by
  obtain ⟨a, b, c, d⟩ := p
  obtain ⟨a', b', c', d'⟩ := q
  simp [eqP, and_assoc]
mutual
def eqF : Fm → Fm → Bool
  | .mk k p l, .mk k' p' l' => k == k' && eqP p p' && eqL l l'
def eqL : List Fm → List Fm → Bool
  | [], [] => true
  | x :: l, y :: m => eqF x y && eqL l m
  | _, _ => false
end
theorem eqF_mk (k k' : Int) (p p' : Pr) (l l' : List Fm) : eqF (.mk k p l) (.mk k' p' l') = (k == k' && eqP p p' && eqL l l') := by rw [eqF]
mutual
theorem eqF_iff : (x y : Fm) → (eqF x y = true ↔ x = y)
  | .mk k p l, .mk k' p' l' => by
    rw [eqF]
    simp only [Bool.and_eq_true, beq_iff_eq, eqP_iff, eqL_iff l l', Fm.mk.injEq, and_assoc]
theorem eqL_iff : (l m : List Fm) → (eqL l m = true ↔ l = m)
  | [], [] => by rw [eqL]; simp
  | [], y :: m => by rw [eqL] <;> simp
  | x :: l, [] => by rw [eqL] <;> simp
  | x :: l, y :: m => by
    rw [eqL]
    simp only [Bool.and_eq_true, eqF_iff x y, eqL_iff l m, List.cons.injEq]
end
theorem eqF_self (x : Fm) : eqF x x = true := (eqF_iff x x).2 rfl
theorem eqL_take {l m : List Fm} (hl : l.length = m.length) : eqL l m = true ↔ ∀ i (h : i < l.length) (h' : i < m.length), eqF l[i] m[i] = true := by
  rw [eqL_iff]
  constructor
  · rintro rfl i h h'
    exact eqF_self _
  · intro h
    exact List.ext_getElem hl fun i h1 h2 => (eqF_iff _ _).1 (h i h1 h2)
end Go.Proofs.YtogopcejapklgaaGreatDoor
namespace Go.Proofs.YtogopcejapklgaaGreatDoor
/-- always(imply(mem(0, 1), ever(reg(1, 0, 1)))) -/
def awB : List UInt8 := [97, 108, 119, 97, 121, 115, 40, 105, 109, 112, 108, 121, 40, 109, 101, 109, 40, 48, 44, 32, 49, 41, 44, 32, 101, 118, 101, 114, 40, 114, 101, 103, 40, 49, 44, 32, 48, 44, 32, 49, 41, 41, 41, 41]
def awF : Fm := .mk 11 Pr.zero [.mk 7 Pr.zero [.mk 3 ⟨1, 0, 0, 1⟩ [], .mk 12 Pr.zero [.mk 3 ⟨2, 1, 0, 1⟩ []]]]
/-- and(bad) -/
def baB : List UInt8 := [97, 110, 100, 40, 98, 97, 100, 41]
theorem awF_ok : okD 20 awF ∧ awF.size ≤ 200 := by
  constructor
  · have e1 : okD 18 (.mk 3 ⟨1, 0, 0, 1⟩ []) := (okD_succ _ _ _ _).2 ⟨.inl ⟨rfl, ⟨.inl rfl, by decide, rfl⟩, rfl⟩, okL_nil _⟩
    have e2 : okD 17 (.mk 3 ⟨2, 1, 0, 1⟩ []) := (okD_succ _ _ _ _).2 ⟨.inl ⟨rfl, ⟨.inr (.inl rfl), by decide, rfl⟩, rfl⟩, okL_nil _⟩
    have e3 : okD 18 (.mk 12 Pr.zero [.mk 3 ⟨2, 1, 0, 1⟩ []]) := (okD_succ _ _ _ _).2 ⟨.inr ⟨by unfold isFrm; omega, rfl, rfl⟩, okL_of (by simpa using e2)⟩
    have e4 : okD 19 (.mk 7 Pr.zero [.mk 3 ⟨1, 0, 0, 1⟩ [], .mk 12 Pr.zero [.mk 3 ⟨2, 1, 0, 1⟩ []]]) := (okD_succ _ _ _ _).2 ⟨.inr ⟨by unfold isFrm; omega, rfl, rfl⟩, okL_of (by simpa using ⟨e1, e3⟩)⟩
    exact (okD_succ _ _ _ _).2 ⟨.inr ⟨by unfold isFrm; omega, rfl, rfl⟩, okL_of (by simpa using e4)⟩
  · decide
theorem awB_txt : txtF awF = awB := by decide +kernel
theorem awB_lex : (lexA awB 0).2 = none ∧ parT (lexA awB 0).1 = .ok awF := by
  obtain ⟨h1, h2⟩ := txt_back awF_ok.1 awF_ok.2 (fu := awB.length + 1) (i := 0) (by rw [awB_txt]; decide)
  rw [awB_txt] at h1 h2
  exact ⟨h1, h2⟩
theorem baB_lex : (lexA baB 0).2 = none ∧ parT (lexA baB 0).1 = .bad 21 7 := ⟨rfl, rfl⟩
end Go.Proofs.YtogopcejapklgaaGreatDoor
namespace Go.Proofs.YtogopcejapklgaaGreatDoor
theorem sepL_join (x : List UInt8) (l : List (List UInt8)) : x ++ sepL l = Lib.join (x :: l) [44, 32] ++ [41] := by
  induction l generalizing x with
  | nil => simp [sepL, Lib.join, List.intercalate]
  | cons y l ih =>
    have h2 : Lib.join (x :: y :: l) [44, 32] = x ++ [44, 32] ++ Lib.join (y :: l) [44, 32] := by
      simp [Lib.join, List.intercalate, List.intersperse]
    rw [h2, sepL, List.append_assoc _ _ [41], ← ih y]
    simp
theorem brkL_join (x : List UInt8) (l : List (List UInt8)) : brkL (x :: l) = [40] ++ Lib.join (x :: l) [44, 32] ++ [41] := by
  rw [brkL, List.append_assoc [40] x, sepL_join]
  simp
/-- Atoms, each once. -/
def addP (out l : List Pr) : List Pr := l.foldl (fun out p => if out.any (eqP p) then out else out ++ [p]) out
mutual
def propsF : Fm → List Pr
  | .mk k p l => addP (if k = 3 then [p] else []) (propsL l)
def propsL : List Fm → List Pr
  | [] => []
  | f :: l => propsF f ++ propsL l
end
theorem propsF_aw : propsF awF = [⟨1, 0, 0, 1⟩, ⟨2, 1, 0, 1⟩] := rfl
end Go.Proofs.YtogopcejapklgaaGreatDoor
namespace Go.Proofs.YtogopcejapklgaaGreatDoor
/-- The tokens of a text, or the error and its place. -/
def lexQ (L : List UInt8) : List Tok × Int × Int :=
  if 10000 < L.length then ([], 2, 0) else match (lexA L 0).2 with | none => ((lexA L 0).1, 0, 0) | some j => ([], 20, j)
def zeroF : Fm := .mk 0 Pr.zero []
def prsR (L : List UInt8) : Fm × Int × Int :=
  if (lexQ L).2.1 ≠ 0 then (zeroF, (lexQ L).2) else match parT (lexQ L).1 with | .ok f => (f, 0, 0) | .bad e i => (zeroF, e, i)
theorem lexA_tokens (L : List UInt8) (h : (lexA L 0).2 = none) : Ends (lexA L 0).1 ∧ Tn (lexA L 0).1 := lex_tokens (f := L.length + 1) (i := 0) h (by simp)
theorem lexQ_spec (L : List UInt8) : ((lexQ L).2.1 = 0 ∧ (lexQ L).1 = (lexA L 0).1 ∧ (lexQ L).2.2 = 0 ∧ (lexA L 0).2 = none ∧ L.length ≤ 10000 ∧ Ends (lexQ L).1 ∧ Tn (lexQ L).1 ∧ ∀ t ∈ (lexQ L).1, t.place ≤ L.length) ∨
    (((lexQ L).2.1 = 2 ∨ (lexQ L).2.1 = 20) ∧ (lexQ L).1 = [] ∧ 0 ≤ (lexQ L).2.2 ∧ (lexQ L).2.2 ≤ L.length) := by
  unfold lexQ
  have hp := lex_places (L.length + 1) (L.drop 0) 0 (by simp)
  by_cases h : 10000 < L.length
  · rw [if_pos h]
    exact .inr ⟨.inl rfl, rfl, by simp, by simp⟩
  · rw [if_neg h]
    cases hx : (lexA L 0).2 with
    | none =>
      obtain ⟨h1, h2⟩ := lexA_tokens L hx
      refine .inl ⟨rfl, rfl, rfl, rfl, by omega, h1, h2, fun t ht => ?_⟩
      have := hp.1 t ht
      simpa using this
    | some j =>
      have := hp.2 j hx
      simp at this
      exact .inr ⟨.inr rfl, rfl, by simp, by simpa using this⟩
theorem prsR_spec (L : List UInt8) : ((prsR L).2.1 = 0 ∧ (prsR L).2.2 = 0 ∧ okD 20 (prsR L).1 ∧ (prsR L).1.size ≤ 200) ∨ ((prsR L).2.1 ≠ 0 ∧ (prsR L).1 = zeroF ∧ 0 ≤ (prsR L).2.2 ∧ (prsR L).2.2 ≤ L.length ∧ 0 ≤ (prsR L).2.1 ∧ (prsR L).2.1 ≤ 21) := by
  unfold prsR
  rcases lexQ_spec L with ⟨h1, -, -, -, -, hE, hT, hP⟩ | ⟨h1, -, h2, h3⟩
  · rw [if_neg (by simp [h1])]
    obtain ⟨p1, p2⟩ := parT_spec hE hT
    cases hr : parT (lexQ L).1 with
    | ok f =>
      obtain ⟨q1, q2⟩ := p1 f hr
      exact .inl ⟨rfl, rfl, q1, q2⟩
    | bad e i =>
      have hb := p2 e i hr
      have hi := hb.place hP
      have he := hb.1
      refine .inr ⟨?_, rfl, by simp, by simpa using hi, ?_, ?_⟩ <;> simp only <;> omega
  · rw [if_pos (by rcases h1 with h | h <;> rw [h] <;> decide)]
    refine .inr ⟨?_, rfl, h2, h3, ?_, ?_⟩ <;> simp only <;> omega
/-- What is printed is parsed to the same. -/
theorem prsR_txt {f : Fm} (h : okD 20 f) (hs : f.size ≤ 200) : prsR (txtF f) = (f, 0, 0) := by
  have hl := txt_le h hs
  obtain ⟨h1, h2⟩ := txt_back h hs (fu := (txtF f).length + 1) (i := 0) (by omega)
  have ha : lexF ((txtF f).length + 1) (txtF f) 0 = lexA (txtF f) 0 := rfl
  rw [ha] at h1 h2
  have e1 : lexQ (txtF f) = ((lexA (txtF f) 0).1, 0, 0) := by unfold lexQ; rw [if_neg (by omega), h1]
  unfold prsR
  rw [e1]
  simp only [ne_eq, not_true_eq_false, if_false]
  rw [h2]
/-- Blanks between tokens make no difference. -/
theorem prsR_join {f : Fm} (h : okD 20 f) (hs : f.size ≤ 200) (hj : (joinN (lexQ (txtF f)).1).length ≤ 10000) : prsR (joinN (lexQ (txtF f)).1) = (f, 0, 0) := by
  have hl := txt_le h hs
  obtain ⟨h1, h2⟩ := txt_back h hs (fu := (txtF f).length + 1) (i := 0) (by omega)
  have ha : lexF ((txtF f).length + 1) (txtF f) 0 = lexA (txtF f) 0 := rfl
  have e1 : lexQ (txtF f) = ((lexA (txtF f) 0).1, 0, 0) := by unfold lexQ; rw [if_neg (by omega), ← ha, h1]
  rw [e1] at hj ⊢
  obtain ⟨g1, g2⟩ := join_back h hs (fu := (txtF f).length + 1) (i := 0) (gu := (joinN (lexA (txtF f) 0).1).length + 1) (j := 0) (by omega) (by rw [ha]; omega)
  rw [ha] at g1 g2
  generalize joinN (lexA (txtF f) 0).1 = u at *
  have hb : lexF (u.length + 1) u 0 = lexA u 0 := rfl
  rw [hb] at g1 g2
  have e2 : lexQ u = ((lexA u 0).1, 0, 0) := by unfold lexQ; rw [if_neg (by omega), g1]
  unfold prsR
  rw [e2]
  simp only [ne_eq, not_true_eq_false, if_false]
  rw [g2]
/-- The joined text is not too long. -/
theorem lexF_text_le : ∀ (f : Nat) (l : List UInt8) (i : Nat), ((lexF f l i).1.map fun t => t.text.length).sum ≤ l.length
  | 0, _, _ => by simp [lexF]
  | f + 1, l, i => by
    simp only [lexF]
    split
    · simp
    · rename_i c m hm
      have hlen := congrArg List.length hm
      have hb := runP_le blankB l
      simp at hlen
      split
      · simp
      · rename_i k n v hk
        have h1 := headT_len hk
        have ih := lexF_text_le f ((c :: m).drop n) (i + runP blankB l + n)
        simp at ih h1 ⊢
        omega
theorem lexF_many : ∀ (f : Nat) (l : List UInt8) (i : Nat), (lexF f l i).1.length ≤ l.length + 1
  | 0, _, _ => by simp [lexF]
  | f + 1, l, i => by
    simp only [lexF]
    split
    · simp
    · rename_i c m hm
      have hlen := congrArg List.length hm
      have hb := runP_le blankB l
      simp at hlen
      split
      · simp
      · rename_i k n v hk
        have h1 := headT_len hk
        have ih := lexF_many f ((c :: m).drop n) (i + runP blankB l + n)
        simp at ih h1 ⊢
        omega
theorem joinN_len (ts : List Tok) : (joinN ts).length = 2 * ts.length + (ts.map fun t => t.text.length).sum := by
  induction ts with
  | nil => rfl
  | cons t ts ih => rw [joinN_cons]; simp [ih]; omega
theorem prsR_aw : prsR awB = (awF, 0, 0) := by rw [← awB_txt]; exact prsR_txt awF_ok.1 awF_ok.2
theorem prsR_ba : prsR baB = (zeroF, 21, 7) := by
  obtain ⟨h1, h2⟩ := baB_lex
  have e2 : lexQ baB = ((lexA baB 0).1, 0, 0) := by unfold lexQ; rw [if_neg (by decide), h1]
  unfold prsR
  rw [e2]
  simp only [ne_eq, not_true_eq_false, if_false]
  rw [h2]
  rfl
end Go.Proofs.YtogopcejapklgaaGreatDoor
namespace Go.Proofs.YtogopcejapklgaaGreatDoor

/-- Unlike formulas have unlike texts. -/
theorem txt_eqF {f g : Fm} (hf : okD 20 f) (sf : f.size ≤ 200) (hg : okD 20 g) (sg : g.size ≤ 200) : (txtF f == txtF g) = eqF f g := by
  by_cases e : f = g
  · subst e
    rw [eqF_self]
    simp
  · have h1 : eqF f g = false := by
      cases h : eqF f g with
      | false => rfl
      | true => exact absurd ((eqF_iff f g).1 h) e
    rw [h1]
    have : txtF f ≠ txtF g := fun h => e (by
      have h2 := prsR_txt hf sf
      rw [h, prsR_txt hg sg] at h2
      exact (Prod.mk.inj h2).1.symm)
    simpa using this
/-- The tokens of a small formula's text. -/
theorem lexQ_small {f : Fm} (hf : okD 20 f) (sf : f.size < 64) : ∃ ts, lexQ (txtF f) = (ts, 0, 0) ∧ ts.length ≤ 2000 ∧ (txtF f).length ≤ 2000 ∧ (joinN ts).length ≤ 6000 ∧ prsR (joinN ts) = (f, 0, 0) := by
  have hl := txt_len f hf
  obtain ⟨h1, h2⟩ := txt_back hf (by omega) (fu := (txtF f).length + 1) (i := 0) (by omega)
  have ha : lexF ((txtF f).length + 1) (txtF f) 0 = lexA (txtF f) 0 := rfl
  have hm := lexF_many ((txtF f).length + 1) (txtF f) 0
  have hx := lexF_text_le ((txtF f).length + 1) (txtF f) 0
  rw [ha] at h1 h2 hm hx
  have e1 : lexQ (txtF f) = ((lexA (txtF f) 0).1, 0, 0) := by unfold lexQ; rw [if_neg (by omega), h1]
  have hj := joinN_len (lexA (txtF f) 0).1
  refine ⟨_, e1, by omega, by omega, by omega, ?_⟩
  have := prsR_join hf (by omega) (by rw [e1]; simp only; omega)
  rw [e1] at this
  exact this
/-- One more token is joined. -/
theorem joinN_take {ts : List Tok} {k : Nat} (hk : k < ts.length) : joinN (ts.take (k + 1)) = joinN (ts.take k) ++ ([10, 32] ++ ts[k].text) := by
  rw [List.take_succ_eq_append_getElem hk]
  generalize ts.take k = l
  induction l with
  | nil => rw [List.nil_append, joinN_cons]; simp [joinN]
  | cons t l ih => rw [List.cons_append, joinN_cons, joinN_cons, ih]; simp
theorem joinN_take_le (ts : List Tok) (k : Nat) : (joinN (ts.take k)).length ≤ (joinN ts).length := by
  conv => rhs; rw [← List.take_append_drop k ts]
  generalize ts.take k = l
  generalize ts.drop k = m
  induction l with
  | nil => simp [joinN]
  | cons t l ih => rw [List.cons_append, joinN_cons, joinN_cons]; simp; omega
end Go.Proofs.YtogopcejapklgaaGreatDoor
