/- Programs in memory; what programs may be. No program in sight. -/
import Derived.Test.YtcgpobeidlimkaaGreatDoorStM
import Derived.Test.YtcgpobeidlimkaaGreatDoorNamB
namespace Go.Proofs.YtcgpobeidlimkaaGreatDoor
open Go.RowKit

/-- A program. -/
structure Pg where
  vars : List ByteArray
  dom : Int
  ths : List (List St)

/-- Names. -/
def VrIn (w : World) (S : Nat → Prop) (a : Option Addr) (n cap : Nat) (l : List ByteArray) : Prop :=
  n = l.length ∧ Sl w S 1 a l.length cap (fun i => [.string (l[i]?.getD ByteArray.empty)])
namespace VrIn
variable {w w' : World} {S S' : Nat → Prop} {a : Option Addr} {n cap : Nat} {l : List ByteArray}
theorem keep (h : VrIn w S a n cap l) (hk : ∀ b o, S b → w'.cell? ⟨b, o, none⟩ = w.cell? ⟨b, o, none⟩) : VrIn w' S a n cap l := ⟨h.1, h.2.keep hk⟩
theorem widen (h : VrIn w S a n cap l) (hS : ∀ b, S b → S' b) : VrIn w S' a n cap l := ⟨h.1, h.2.widen hS⟩
theorem le (h : VrIn w S a n cap l) : l.length ≤ cap := h.2.le
theorem mx (h : VrIn w S a n cap l) : cap ≤ maxLen := h.2.mx
theorem at_ (h : VrIn w S a n cap l) (i : Nat) (hi : i < l.length) : ∃ b off, a = some ⟨b, off, none⟩ ∧ S b ∧ w.cell? ⟨b, off + i, none⟩ = some (.string l[i]) := by
  obtain ⟨b, off, rfl, hb, hc⟩ := h.2.at_ (by omega)
  refine ⟨b, off, rfl, hb, ?_⟩
  have := hc i hi 0 (by omega)
  simpa [hi] using this
theorem nil_ : VrIn w S none 0 0 [] := ⟨rfl, Sl.nil⟩
end VrIn
theorem Kp.vr {W0 w : World} (h : Kp W0 w) {a : Option Addr} {n cap : Nat} {l : List ByteArray} (hx : VrIn W0 (In_ W0) a n cap l) : VrIn w (In_ w) a n cap l := (hx.keep fun b o hb => h.2 b o hb).widen (In_.mono h.1.size)

/-- Threads of statements. -/
def TsIn (w : World) (S : Nat → Prop) (a : Option Addr) (n cap : Nat) (t : List (List St)) : Prop :=
  n = t.length ∧ ∃ (A : Nat → Option Addr) (K : Nat → Nat), Sl w S 1 a t.length cap (fun i => [.slice (A i) (t[i]?.getD []).length (K i)]) ∧ ∀ i (h : i < t.length), StRow w S (A i) t[i].length (K i) t[i]
namespace TsIn
variable {w w' : World} {S S' : Nat → Prop} {a : Option Addr} {n cap : Nat} {t : List (List St)}
theorem keep (h : TsIn w S a n cap t) (hk : ∀ b o, S b → w'.cell? ⟨b, o, none⟩ = w.cell? ⟨b, o, none⟩) : TsIn w' S a n cap t := by
  obtain ⟨hn, A, K, h1, h2⟩ := h
  exact ⟨hn, A, K, h1.keep hk, fun i hi => (h2 i hi).keep hk⟩
theorem widen (h : TsIn w S a n cap t) (hS : ∀ b, S b → S' b) : TsIn w S' a n cap t := by
  obtain ⟨hn, A, K, h1, h2⟩ := h
  exact ⟨hn, A, K, h1.widen hS, fun i hi => (h2 i hi).widen hS⟩
theorem le (h : TsIn w S a n cap t) : t.length ≤ cap := by obtain ⟨_, _, _, h1, _⟩ := h; exact h1.le
theorem mx (h : TsIn w S a n cap t) : cap ≤ maxLen := by obtain ⟨_, _, _, h1, _⟩ := h; exact h1.mx
theorem at_ (h : TsIn w S a n cap t) (i : Nat) (hi : i < t.length) : ∃ b off ar kr, a = some ⟨b, off, none⟩ ∧ S b ∧ w.cell? ⟨b, off + i, none⟩ = some (.slice ar t[i].length kr) ∧ StRow w S ar t[i].length kr t[i] := by
  obtain ⟨hn, A, K, h1, h2⟩ := h
  obtain ⟨b, off, rfl, hb, hc⟩ := h1.at_ (by omega)
  refine ⟨b, off, A i, K i, rfl, hb, ?_, h2 i hi⟩
  have := hc i hi 0 (by omega)
  simpa [hi] using this
theorem nil_ : TsIn w S none 0 0 [] := ⟨rfl, fun _ => none, fun _ => 0, Sl.nil, fun i hi => absurd hi (by simp)⟩
end TsIn
theorem Kp.ts {W0 w : World} (h : Kp W0 w) {a : Option Addr} {n cap : Nat} {t : List (List St)} (hx : TsIn W0 (In_ W0) a n cap t) : TsIn w (In_ w) a n cap t := (hx.keep fun b o hb => h.2 b o hb).widen (In_.mono h.1.size)

/-- A program lies in 'w': its three cells. -/
def PgIn (w : World) (S : Nat → Prop) (cs : List Value) (p : Pg) : Prop :=
  ∃ va cv ta ct, cs = [.slice va p.vars.length cv, .int .i64 p.dom, .slice ta p.ths.length ct] ∧ VrIn w S va p.vars.length cv p.vars ∧ TsIn w S ta p.ths.length ct p.ths ∧ (Lit.int .i64 p.dom).wf = true
theorem PgIn.keep {w w' : World} {S : Nat → Prop} {cs : List Value} {p : Pg} (h : PgIn w S cs p) (hk : ∀ b o, S b → w'.cell? ⟨b, o, none⟩ = w.cell? ⟨b, o, none⟩) : PgIn w' S cs p := by
  obtain ⟨va, cv, ta, ct, he, h1, h2, h3⟩ := h
  exact ⟨va, cv, ta, ct, he, h1.keep hk, h2.keep hk, h3⟩
theorem PgIn.widen {w : World} {S S' : Nat → Prop} {cs : List Value} {p : Pg} (h : PgIn w S cs p) (hS : ∀ b, S b → S' b) : PgIn w S' cs p := by
  obtain ⟨va, cv, ta, ct, he, h1, h2, h3⟩ := h
  exact ⟨va, cv, ta, ct, he, h1.widen hS, h2.widen hS, h3⟩
theorem Kp.pg {W0 w : World} (h : Kp W0 w) {cs : List Value} {p : Pg} (hx : PgIn W0 (In_ W0) cs p) : PgIn w (In_ w) cs p := (hx.keep fun b o hb => h.2 b o hb).widen (In_.mono h.1.size)

/-- How many statements there are, of all threads. -/
def cntT (t : List (List St)) : Nat := (t.map cntL).sum
/-- Are all threads right, some statements having been counted? -/
def okT (vars dom : Int) (t : List (List St)) : Bool := t.all (okL vars dom 20)
def sumT (vars dom : Int) (t : List (List St)) : Bool := okT vars dom t && decide (cntT t ≤ 200)
/-- May a program be? -/
def rightP (p : Pg) : Bool :=
  decide (1 ≤ p.vars.length) && decide (p.vars.length ≤ 4) && p.vars.all nameB && decide (p.vars.Nodup) && decide (2 ≤ p.dom) && decide (p.dom ≤ 16) && decide (1 ≤ p.ths.length) && decide (p.ths.length ≤ 4) && sumT p.vars.length p.dom p.ths

theorem cntT_take (t : List (List St)) (i : Nat) (hi : i < t.length) : cntT (t.take (i + 1)) = cntT (t.take i) + cntL t[i] := by
  unfold cntT
  rw [List.take_succ_eq_append_getElem hi, List.map_append, List.sum_append]
  simp
theorem cntT_le (t : List (List St)) (i : Nat) : cntT (t.take i) ≤ cntT t := by
  unfold cntT
  conv => rhs; rw [← List.take_append_drop i t, List.map_append, List.sum_append]
  omega
theorem okT_step {vars dom : Int} {t : List (List St)} {i : Nat} (hi : i < t.length) (h : okT vars dom (t.take i) = true) (hx : okL vars dom 20 t[i] = true) : okT vars dom (t.take (i + 1)) = true := by
  unfold okT at *
  rw [List.take_succ_eq_append_getElem hi, List.all_append, h]
  simp [hx]
theorem okT_bad {vars dom : Int} {t : List (List St)} {i : Nat} (hi : i < t.length) (h : okL vars dom 20 t[i] = false) : sumT vars dom t = false := by
  unfold sumT okT
  have : t.all (okL vars dom 20) = false := by
    rw [List.all_eq_false]
    exact ⟨t[i], List.getElem_mem hi, by simp [h]⟩
  rw [this]; rfl
theorem sumT_many {vars dom : Int} {t : List (List St)} {i : Nat} (hi : i < t.length) (h : 200 < cntT (t.take i) + cntL t[i]) : sumT vars dom t = false := by
  unfold sumT
  have h1 := cntT_take t i hi
  have h2 := cntT_le t (i + 1)
  rw [decide_eq_false (by omega)]
  simp
end Go.Proofs.YtcgpobeidlimkaaGreatDoor
