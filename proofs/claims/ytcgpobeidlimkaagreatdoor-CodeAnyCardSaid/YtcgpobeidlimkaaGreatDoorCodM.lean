/- Code in memory. No program in sight. -/
import Derived.Test.YtcgpobeidlimkaaGreatDoorTreD
namespace Go.Proofs.YtcgpobeidlimkaaGreatDoor
open Go.RowKit

/-- An instruction. -/
structure Ins where
  op : Int
  reg : Int
  v : Int
  a : Ex
  b : Ex
  to : Int

def InsIn (w : World) (S : Nat → Prop) (cs : List Value) (x : Ins) : Prop :=
  ∃ u0 u1 u2 u3 v0 v1 v2 v3, cs = [.int .i64 x.op, .int .i64 x.reg, .int .i64 x.v, u0, u1, u2, u3, v0, v1, v2, v3, .int .i64 x.to] ∧ ExIn w S [u0, u1, u2, u3] x.a ∧ ExIn w S [v0, v1, v2, v3] x.b
theorem InsIn.keep {w w' : World} {S : Nat → Prop} {cs : List Value} {x : Ins} (h : InsIn w S cs x) (hk : ∀ b o, S b → w'.cell? ⟨b, o, none⟩ = w.cell? ⟨b, o, none⟩) : InsIn w' S cs x := by
  obtain ⟨u0, u1, u2, u3, v0, v1, v2, v3, hc, ha, hb⟩ := h
  exact ⟨u0, u1, u2, u3, v0, v1, v2, v3, hc, ha.keep hk, hb.keep hk⟩
theorem InsIn.widen {w : World} {S S' : Nat → Prop} {cs : List Value} {x : Ins} (h : InsIn w S cs x) (hS : ∀ b, S b → S' b) : InsIn w S' cs x := by
  obtain ⟨u0, u1, u2, u3, v0, v1, v2, v3, hc, ha, hb⟩ := h
  exact ⟨u0, u1, u2, u3, v0, v1, v2, v3, hc, ha.widen hS, hb.widen hS⟩
theorem Kp.ins {W0 w : World} (h : Kp W0 w) {cs : List Value} {x : Ins} (hx : InsIn W0 (In_ W0) cs x) : InsIn w (In_ w) cs x := (hx.keep fun b o hb => h.2 b o hb).widen (In_.mono h.1.size)

/-- A row of instructions. -/
def InsRow (w : World) (S : Nat → Prop) (a : Option Addr) (n cap : Nat) (l : List Ins) : Prop :=
  n = l.length ∧ ∃ C : Nat → List Value, Sl w S 12 a l.length cap C ∧ ∀ i (h : i < l.length), InsIn w S (C i) l[i]
namespace InsRow
variable {w w' : World} {S S' : Nat → Prop} {a : Option Addr} {n cap : Nat} {l : List Ins}
theorem keep (h : InsRow w S a n cap l) (hk : ∀ b o, S b → w'.cell? ⟨b, o, none⟩ = w.cell? ⟨b, o, none⟩) : InsRow w' S a n cap l := by
  obtain ⟨hn, C, h1, h2⟩ := h
  exact ⟨hn, C, h1.keep hk, fun i hi => (h2 i hi).keep hk⟩
theorem widen (h : InsRow w S a n cap l) (hS : ∀ b, S b → S' b) : InsRow w S' a n cap l := by
  obtain ⟨hn, C, h1, h2⟩ := h
  exact ⟨hn, C, h1.widen hS, fun i hi => (h2 i hi).widen hS⟩
theorem le (h : InsRow w S a n cap l) : l.length ≤ cap := h.2.choose_spec.1.le
theorem mx (h : InsRow w S a n cap l) : cap ≤ maxLen := h.2.choose_spec.1.mx
theorem at_ (h : InsRow w S a n cap l) (i : Nat) (hi : i < l.length) : ∃ b off u0 u1 u2 u3 v0 v1 v2 v3, a = some ⟨b, off, none⟩ ∧ S b ∧
    (w.cell? ⟨b, off + i * 12, none⟩ = some (.int .i64 l[i].op) ∧ w.cell? ⟨b, off + i * 12 + 1, none⟩ = some (.int .i64 l[i].reg) ∧ w.cell? ⟨b, off + i * 12 + 2, none⟩ = some (.int .i64 l[i].v)) ∧
    (w.cell? ⟨b, off + i * 12 + 3, none⟩ = some u0 ∧ w.cell? ⟨b, off + i * 12 + 4, none⟩ = some u1 ∧ w.cell? ⟨b, off + i * 12 + 5, none⟩ = some u2 ∧ w.cell? ⟨b, off + i * 12 + 6, none⟩ = some u3) ∧
    (w.cell? ⟨b, off + i * 12 + 7, none⟩ = some v0 ∧ w.cell? ⟨b, off + i * 12 + 8, none⟩ = some v1 ∧ w.cell? ⟨b, off + i * 12 + 9, none⟩ = some v2 ∧ w.cell? ⟨b, off + i * 12 + 10, none⟩ = some v3) ∧
    w.cell? ⟨b, off + i * 12 + 11, none⟩ = some (.int .i64 l[i].to) ∧ ExIn w S [u0, u1, u2, u3] l[i].a ∧ ExIn w S [v0, v1, v2, v3] l[i].b := by
  obtain ⟨hn, C, h1, h2⟩ := h
  obtain ⟨b, off, rfl, hb, hc⟩ := h1.at_ (by omega)
  obtain ⟨u0, u1, u2, u3, v0, v1, v2, v3, he, ha, hbb⟩ := h2 i hi
  have g := fun j hj => hc i hi j hj
  simp only [he] at g
  refine ⟨b, off, u0, u1, u2, u3, v0, v1, v2, v3, rfl, hb, ⟨?_, ?_, ?_⟩, ⟨?_, ?_, ?_, ?_⟩, ⟨?_, ?_, ?_, ?_⟩, ?_, ha, hbb⟩
  · simpa using g 0 (by omega)
  · simpa [Nat.add_assoc] using g 1 (by omega)
  · simpa [Nat.add_assoc] using g 2 (by omega)
  · simpa [Nat.add_assoc] using g 3 (by omega)
  · simpa [Nat.add_assoc] using g 4 (by omega)
  · simpa [Nat.add_assoc] using g 5 (by omega)
  · simpa [Nat.add_assoc] using g 6 (by omega)
  · simpa [Nat.add_assoc] using g 7 (by omega)
  · simpa [Nat.add_assoc] using g 8 (by omega)
  · simpa [Nat.add_assoc] using g 9 (by omega)
  · simpa [Nat.add_assoc] using g 10 (by omega)
  · simpa [Nat.add_assoc] using g 11 (by omega)
theorem nil_ : InsRow w S none 0 0 [] := ⟨rfl, fun _ => [], Sl.nil, fun i hi => absurd hi (by simp)⟩
end InsRow
theorem Kp.row {W0 w : World} (h : Kp W0 w) {a : Option Addr} {n cap : Nat} {l : List Ins} (hx : InsRow W0 (In_ W0) a n cap l) : InsRow w (In_ w) a n cap l := (hx.keep fun b o hb => h.2 b o hb).widen (In_.mono h.1.size)

/-- Threads of instructions. -/
def ThsIn (w : World) (S : Nat → Prop) (a : Option Addr) (n cap : Nat) (t : List (List Ins)) : Prop :=
  n = t.length ∧ ∃ (A : Nat → Option Addr) (K : Nat → Nat), Sl w S 1 a t.length cap (fun i => [.slice (A i) (t[i]?.getD []).length (K i)]) ∧ ∀ i (h : i < t.length), InsRow w S (A i) t[i].length (K i) t[i]
namespace ThsIn
variable {w w' : World} {S S' : Nat → Prop} {a : Option Addr} {n cap : Nat} {t : List (List Ins)}
theorem keep (h : ThsIn w S a n cap t) (hk : ∀ b o, S b → w'.cell? ⟨b, o, none⟩ = w.cell? ⟨b, o, none⟩) : ThsIn w' S a n cap t := by
  obtain ⟨hn, A, K, h1, h2⟩ := h
  exact ⟨hn, A, K, h1.keep hk, fun i hi => (h2 i hi).keep hk⟩
theorem widen (h : ThsIn w S a n cap t) (hS : ∀ b, S b → S' b) : ThsIn w S' a n cap t := by
  obtain ⟨hn, A, K, h1, h2⟩ := h
  exact ⟨hn, A, K, h1.widen hS, fun i hi => (h2 i hi).widen hS⟩
theorem le (h : ThsIn w S a n cap t) : t.length ≤ cap := by obtain ⟨_, _, _, h1, _⟩ := h; exact h1.le
theorem mx (h : ThsIn w S a n cap t) : cap ≤ maxLen := by obtain ⟨_, _, _, h1, _⟩ := h; exact h1.mx
theorem at_ (h : ThsIn w S a n cap t) (i : Nat) (hi : i < t.length) : ∃ b off ar kr, a = some ⟨b, off, none⟩ ∧ S b ∧ w.cell? ⟨b, off + i, none⟩ = some (.slice ar t[i].length kr) ∧ InsRow w S ar t[i].length kr t[i] := by
  obtain ⟨hn, A, K, h1, h2⟩ := h
  obtain ⟨b, off, rfl, hb, hc⟩ := h1.at_ (by omega)
  refine ⟨b, off, A i, K i, rfl, hb, ?_, h2 i hi⟩
  have := hc i hi 0 (by omega)
  simpa [hi] using this
end ThsIn
theorem Kp.ths {W0 w : World} (h : Kp W0 w) {a : Option Addr} {n cap : Nat} {t : List (List Ins)} (hx : ThsIn W0 (In_ W0) a n cap t) : ThsIn w (In_ w) a n cap t := (hx.keep fun b o hb => h.2 b o hb).widen (In_.mono h.1.size)

/-- The kind of statement that an instruction is like; how far it may lead. -/
def insK (op : Int) : Int := if op = 12 then 9 else if op = 13 then 4 else op
def insT (op many : Int) : Int := if op = 12 ∨ op = 13 then many else 0
/-- May an instruction be, of so many? -/
def insL (vars dom : Int) (x : Ins) (many : Int) : Bool :=
  decide (1 ≤ insK x.op) && decide (insK x.op ≤ 9) && decide (0 ≤ x.to) && decide (x.to ≤ insT x.op many) && partL (insK x.op) x.reg x.v x.a x.b vars dom
def rowL (vars dom : Int) (l : List Ins) : Bool := decide (l.length ≤ 600) && l.all fun x => insL vars dom x l.length
/-- May code be? -/
def rightL (vars dom : Int) (t : List (List Ins)) : Bool :=
  decide (1 ≤ vars) && decide (vars ≤ 4) && decide (2 ≤ dom) && decide (dom ≤ 16) && decide (1 ≤ t.length) && decide (t.length ≤ 4) && t.all fun l => rowL vars dom l
end Go.Proofs.YtcgpobeidlimkaaGreatDoor
