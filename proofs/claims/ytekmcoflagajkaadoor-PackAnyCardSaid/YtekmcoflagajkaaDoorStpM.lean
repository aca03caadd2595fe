/- States in memory; what fits. No program in sight. -/
import Derived.Test.YtekmcoflagajkaaDoorCodM
import Derived.Test.YtekmcoflagajkaaDoorIntM
import Derived.Test.YtekmcoflagajkaaDoorBufA
namespace Go.Proofs.YtekmcoflagajkaaDoor
open Go.RowKit

/-- A thread's state. -/
structure Thr where
  pc : Int
  r0 : Int
  r1 : Int
  r2 : Int
  r3 : Int
  buf : List (Int × Int)
def Thr.cells (x : Thr) (a : Option Addr) (k : Nat) : List Value := [.int .i64 x.pc, .int .i64 x.r0, .int .i64 x.r1, .int .i64 x.r2, .int .i64 x.r3, .slice a x.buf.length k]
def Thr.zero : Thr := ⟨0, 0, 0, 0, 0, []⟩

/-- Threads' states lie where a slice leads. -/
def ThrIn (w : World) (S : Nat → Prop) (a : Option Addr) (n cap : Nat) (l : List Thr) : Prop :=
  n = l.length ∧ ∃ (A : Nat → Option Addr) (K : Nat → Nat), Sl w S 6 a l.length cap (fun i => (l[i]?.getD .zero).cells (A i) (K i)) ∧ ∀ i (h : i < l.length), EnIn w S (A i) l[i].buf.length (K i) l[i].buf
namespace ThrIn
variable {w w' : World} {S S' : Nat → Prop} {a : Option Addr} {n cap : Nat} {l : List Thr}
theorem keep (h : ThrIn w S a n cap l) (hk : ∀ b o, S b → w'.cell? ⟨b, o, none⟩ = w.cell? ⟨b, o, none⟩) : ThrIn w' S a n cap l := by
  obtain ⟨hn, A, K, h1, h2⟩ := h
  exact ⟨hn, A, K, h1.keep hk, fun i hi => (h2 i hi).keep hk⟩
theorem widen (h : ThrIn w S a n cap l) (hS : ∀ b, S b → S' b) : ThrIn w S' a n cap l := by
  obtain ⟨hn, A, K, h1, h2⟩ := h
  exact ⟨hn, A, K, h1.widen hS, fun i hi => (h2 i hi).widen hS⟩
theorem le (h : ThrIn w S a n cap l) : l.length ≤ cap := by obtain ⟨_, _, _, h1, _⟩ := h; exact h1.le
theorem mx (h : ThrIn w S a n cap l) : cap ≤ maxLen := by obtain ⟨_, _, _, h1, _⟩ := h; exact h1.mx
theorem at_ (h : ThrIn w S a n cap l) (i : Nat) (hi : i < l.length) : ∃ b off ar kr, a = some ⟨b, off, none⟩ ∧ S b ∧
    (w.cell? ⟨b, off + i * 6, none⟩ = some (.int .i64 l[i].pc) ∧ w.cell? ⟨b, off + i * 6 + 1, none⟩ = some (.int .i64 l[i].r0) ∧ w.cell? ⟨b, off + i * 6 + 2, none⟩ = some (.int .i64 l[i].r1)) ∧
    (w.cell? ⟨b, off + i * 6 + 3, none⟩ = some (.int .i64 l[i].r2) ∧ w.cell? ⟨b, off + i * 6 + 4, none⟩ = some (.int .i64 l[i].r3) ∧ w.cell? ⟨b, off + i * 6 + 5, none⟩ = some (.slice ar l[i].buf.length kr)) ∧
    EnIn w S ar l[i].buf.length kr l[i].buf := by
  obtain ⟨hn, A, K, h1, h2⟩ := h
  obtain ⟨b, off, rfl, hb, hc⟩ := h1.at_ (by omega)
  have g := fun j hj => hc i hi j hj
  simp only [List.getElem?_eq_getElem hi, Option.getD_some, Thr.cells] at g
  refine ⟨b, off, A i, K i, rfl, hb, ⟨?_, ?_, ?_⟩, ⟨?_, ?_, ?_⟩, h2 i hi⟩
  · simpa using g 0 (by omega)
  · simpa [Nat.add_assoc] using g 1 (by omega)
  · simpa [Nat.add_assoc] using g 2 (by omega)
  · simpa [Nat.add_assoc] using g 3 (by omega)
  · simpa [Nat.add_assoc] using g 4 (by omega)
  · simpa [Nat.add_assoc] using g 5 (by omega)
theorem nil_ : ThrIn w S none 0 0 [] := ⟨rfl, fun _ => none, fun _ => 0, Sl.nil, fun i hi => absurd hi (by simp)⟩
end ThrIn
theorem Kp.thr {W0 w : World} (h : Kp W0 w) {a : Option Addr} {n cap : Nat} {l : List Thr} (hx : ThrIn W0 (In_ W0) a n cap l) : ThrIn w (In_ w) a n cap l := (hx.keep fun b o hb => h.2 b o hb).widen (In_.mono h.1.size)

/-- May a machine run code? -/
def mayL (vars dom : Int) (t : List (List Ins)) (m b : Int) : Bool := rightL vars dom t && decide (0 ≤ m) && decide (m ≤ 2) && decide (1 ≤ b) && decide (b ≤ 8)
/-- Is a number below the domain? -/
def inL (dom n : Int) : Bool := decide (0 ≤ n) && decide (n < dom)
/-- Can a store wait behind those ahead of it? -/
def waitL (vars dom m b : Int) (l : List (Int × Int)) (k : Nat) : Bool :=
  match l[k]? with
  | some x => (putL m b x (l.take k)).2 && inL vars x.1 && inL dom x.2
  | none => true
def waitsL (vars dom m b : Int) (l : List (Int × Int)) : Bool := (List.range l.length).all fun k => waitL vars dom m b l k
/-- Does a thread's state fit, of so many instructions? -/
def thrL (vars dom m b : Int) (x : Thr) (many : Nat) : Bool :=
  decide (0 ≤ x.pc) && decide (x.pc ≤ many) && (inL dom x.r0 && inL dom x.r1 && inL dom x.r2 && inL dom x.r3) && waitsL vars dom m b x.buf
def fitsL (vars dom : Int) (t : List (List Ins)) (m b : Int) (th : List Thr) (mem : List Int) : Bool :=
  mayL vars dom t m b && decide (th.length = t.length) && decide ((mem.length : Int) = vars) && (mem.all fun n => inL dom n) && (List.range th.length).all fun i => thrL vars dom m b (th[i]?.getD .zero) (t[i]?.getD []).length

theorem putL_snd (m b : Int) (x : Int × Int) (l : List (Int × Int)) (h : (putL m b x l).2 = true) : (putL m b x l).1 = l ++ [x] := by
  unfold putL at h ⊢
  split
  · rename_i hc
    rw [if_pos hc] at h
    cases h
  · rfl
theorem range_snoc (f : Nat → Bool) (k : Nat) : (List.range (k + 1)).all f = ((List.range k).all f && f k) := by
  rw [List.range_succ, List.all_append]
  simp
theorem range_false (f : Nat → Bool) (n k : Nat) (hk : k < n) (h : f k = false) : (List.range n).all f = false := by
  rw [List.all_eq_false]
  exact ⟨k, List.mem_range.2 hk, by simp [h]⟩
end Go.Proofs.YtekmcoflagajkaaDoor
