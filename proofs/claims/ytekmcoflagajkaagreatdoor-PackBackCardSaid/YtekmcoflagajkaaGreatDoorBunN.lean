/- What a byte is; the run ahead of a text. -/
import Derived.Test.YtekmcoflagajkaaGreatDoorBunM
import Derived.Test.YtekmcoflagajkaaGreatDoorRows
import Derived.BigQuiet
import Derived.Deep.QuietTactic
import Derived.Lib.Strings
import Derived.Shelf.LaysM
import Derived.Shelf.Sort.Plain
import Derived.Shelf.Slices.Turned
import Derived.Shelf.Slices.CompactS
import Derived.Shelf.Slices.Cells
import Derived.Shelf.Slices.In.SortNone
import Derived.Shelf.SlIter.Sorted
import Derived.Shelf.SlGeneric
import Derived.Test.YtekmcoflagajkaaGreatDoorBunS
namespace Go.Proofs.YtekmcoflagajkaaGreatDoor
open Go.RowKit

theorem letterB_int (c : UInt8) : letterB c = (decide ((97 : Int) ≤ c.toNat) && decide ((c.toNat : Int) ≤ 122)) := by
  unfold letterB
  congr 1 <;> (apply decide_eq_decide.2; omega)
theorem digitB_int (c : UInt8) : digitB c = (decide ((48 : Int) ≤ c.toNat) && decide ((c.toNat : Int) ≤ 57)) := by
  unfold digitB
  congr 1 <;> (apply decide_eq_decide.2; omega)

set_option maxHeartbeats 1000000 in
theorem letterR_any (c : UInt8) (w : World) : Calls Tryz.prog 63 #[.int .u8 c.toNat] w fun e w' => e = .returned (.bool (letterB c)) ∧ w = w' := by
  rw [letterB_int]
  by_cases h : (97 : Int) ≤ c.toNat <;> by_cases h' : (c.toNat : Int) ≤ 122
  all_goals
    first | rw [decide_eq_true h] | rw [decide_eq_false h]
    first | rw [decide_eq_true h'] | rw [decide_eq_false h']
    go_enter Tryz.func63, Tryz.ntmps63
    go_wp2_with fail
    go_ret
    exact ⟨rfl, rfl⟩

set_option maxHeartbeats 1000000 in
theorem digitR_any (c : UInt8) (w : World) : Calls Tryz.prog 66 #[.int .u8 c.toNat] w fun e w' => e = .returned (.bool (digitB c)) ∧ w = w' := by
  rw [digitB_int]
  by_cases h : (48 : Int) ≤ c.toNat <;> by_cases h' : (c.toNat : Int) ≤ 57
  all_goals
    first | rw [decide_eq_true h] | rw [decide_eq_false h]
    first | rw [decide_eq_true h'] | rw [decide_eq_false h']
    go_enter Tryz.func66, Tryz.ntmps66
    go_wp2_with fail
    go_ret
    exact ⟨rfl, rfl⟩

theorem data_len (s : ByteArray) : s.data.toList.length = s.size := rfl
theorem drop_byte (s : ByteArray) (k : Nat) (h : k < s.size) : s.data.toList.drop k = s[k] :: s.data.toList.drop (k + 1) := by
  rw [List.drop_eq_getElem_cons (by rw [data_len]; exact h)]
  rfl

end Go.Proofs.YtekmcoflagajkaaGreatDoor
namespace Go.Proofs.YtekmcoflagajkaaGreatDoor
open Go.RowKit

def keyZ : List ByteArray := [⟨#[118, 97, 114, 115]⟩, ⟨#[100, 111, 109, 97, 105, 110]⟩, ⟨#[116, 104, 114, 101, 97, 100]⟩, ⟨#[102, 101, 110, 99, 101]⟩, ⟨#[115, 102, 101, 110, 99, 101]⟩, ⟨#[99, 97, 115]⟩, ⟨#[108, 111, 99, 107]⟩, ⟨#[117, 110, 108, 111, 99, 107]⟩, ⟨#[97, 115, 115, 101, 114, 116]⟩, ⟨#[105, 102]⟩, ⟨#[101, 108, 115, 101]⟩, ⟨#[119, 104, 105, 108, 101]⟩]
def regZ : List ByteArray := [⟨#[114, 48]⟩, ⟨#[114, 49]⟩, ⟨#[114, 50]⟩, ⟨#[114, 51]⟩]
def keyB (s : ByteArray) : Bool := Lib.containsS keyZ s
def regI (s : ByteArray) : Int := Lib.idxOfS regZ s

theorem row_cell (w : World) (zs : List ByteArray) (T : TypeId) (j : Nat) (hj : j < zs.length) : (w.alloc (.cells (zs.map Value.string).toArray T)).cell? ⟨w.heap.size, 0 + j, none⟩ = some (.string (zs.getD j ByteArray.empty)) := by
  rw [World.cell?_alloc_at _ _ _ _ (by simp)]
  simp [hj]

def nameB (s : ByteArray) : Bool :=
  match s.data.toList with
  | [] => false
  | c :: _ => decide (s.size ≤ 12) && letterB c && decide (runP partB s.data.toList = s.size) && !keyB s && decide (regI s < 0)

end Go.Proofs.YtekmcoflagajkaaGreatDoor
namespace Go.Proofs.YtekmcoflagajkaaGreatDoor
open Go.RowKit

/-- A program. -/
structure Pg where
  vars : List ByteArray
  dom : Int
  ths : List (List St)

/-- Names. -/
def VrIn (w : World) (S : Nat → Prop) (a : Option Addr) (n cap : Nat) (l : List ByteArray) : Prop :=
  n = l.length ∧ Sl w S 1 a l.length cap (fun i => [.string (l[i]?.getD ByteArray.empty)])
namespace VrIn
variable {w w' : World} {S S' : Nat → Prop} {a : Option Addr} {n cap : Nat} {l : List ByteArray}
theorem keep (h : VrIn w S a n cap l) (hk : ∀ b o, S b → w'.cell? ⟨b, o, none⟩ = w.cell? ⟨b, o, none⟩) : VrIn w' S a n cap l := ⟨h.1, h.2.keep hk⟩
theorem widen (h : VrIn w S a n cap l) (hS : ∀ b, S b → S' b) : VrIn w S' a n cap l := ⟨h.1, h.2.widen hS⟩
theorem le (h : VrIn w S a n cap l) : l.length ≤ cap := h.2.le
theorem mx (h : VrIn w S a n cap l) : cap ≤ maxLen := h.2.mx
theorem at_ (h : VrIn w S a n cap l) (i : Nat) (hi : i < l.length) : ∃ b off, a = some ⟨b, off, none⟩ ∧ S b ∧ w.cell? ⟨b, off + i, none⟩ = some (.string l[i]) := by
  obtain ⟨b, off, rfl, hb, hc⟩ := h.2.at_ (by omega)
  refine ⟨b, off, rfl, hb, ?_⟩
  have := hc i hi 0 (by omega)
  simpa [hi] using this
theorem nil_ : VrIn w S none 0 0 [] := ⟨rfl, Sl.nil⟩
end VrIn
theorem Kp.vr {W0 w : World} (h : Kp W0 w) {a : Option Addr} {n cap : Nat} {l : List ByteArray} (hx : VrIn W0 (In_ W0) a n cap l) : VrIn w (In_ w) a n cap l := (hx.keep fun b o hb => h.2 b o hb).widen (In_.mono h.1.size)

/-- Threads of statements. -/
def TsIn (w : World) (S : Nat → Prop) (a : Option Addr) (n cap : Nat) (t : List (List St)) : Prop :=
  n = t.length ∧ ∃ (A : Nat → Option Addr) (K : Nat → Nat), Sl w S 1 a t.length cap (fun i => [.slice (A i) (t[i]?.getD []).length (K i)]) ∧ ∀ i (h : i < t.length), StRow w S (A i) t[i].length (K i) t[i]
namespace TsIn
variable {w w' : World} {S S' : Nat → Prop} {a : Option Addr} {n cap : Nat} {t : List (List St)}
theorem keep (h : TsIn w S a n cap t) (hk : ∀ b o, S b → w'.cell? ⟨b, o, none⟩ = w.cell? ⟨b, o, none⟩) : TsIn w' S a n cap t := by
  obtain ⟨hn, A, K, h1, h2⟩ := h
  exact ⟨hn, A, K, h1.keep hk, fun i hi => (h2 i hi).keep hk⟩
theorem widen (h : TsIn w S a n cap t) (hS : ∀ b, S b → S' b) : TsIn w S' a n cap t := by
  obtain ⟨hn, A, K, h1, h2⟩ := h
  exact ⟨hn, A, K, h1.widen hS, fun i hi => (h2 i hi).widen hS⟩
theorem le (h : TsIn w S a n cap t) : t.length ≤ cap := by obtain ⟨_, _, _, h1, _⟩ := h; exact h1.le
theorem mx (h : TsIn w S a n cap t) : cap ≤ maxLen := by obtain ⟨_, _, _, h1, _⟩ := h; exact h1.mx
theorem at_ (h : TsIn w S a n cap t) (i : Nat) (hi : i < t.length) : ∃ b off ar kr, a = some ⟨b, off, none⟩ ∧ S b ∧ w.cell? ⟨b, off + i, none⟩ = some (.slice ar t[i].length kr) ∧ StRow w S ar t[i].length kr t[i] := by
  obtain ⟨hn, A, K, h1, h2⟩ := h
  obtain ⟨b, off, rfl, hb, hc⟩ := h1.at_ (by omega)
  refine ⟨b, off, A i, K i, rfl, hb, ?_, h2 i hi⟩
  have := hc i hi 0 (by omega)
  simpa [hi] using this
theorem nil_ : TsIn w S none 0 0 [] := ⟨rfl, fun _ => none, fun _ => 0, Sl.nil, fun i hi => absurd hi (by simp)⟩
end TsIn
theorem Kp.ts {W0 w : World} (h : Kp W0 w) {a : Option Addr} {n cap : Nat} {t : List (List St)} (hx : TsIn W0 (In_ W0) a n cap t) : TsIn w (In_ w) a n cap t := (hx.keep fun b o hb => h.2 b o hb).widen (In_.mono h.1.size)

/-- A program lies in 'w': its three cells. -/
def PgIn (w : World) (S : Nat → Prop) (cs : List Value) (p : Pg) : Prop :=
  ∃ va cv ta ct, cs = [.slice va p.vars.length cv, .int .i64 p.dom, .slice ta p.ths.length ct] ∧ VrIn w S va p.vars.length cv p.vars ∧ TsIn w S ta p.ths.length ct p.ths ∧ (Lit.int .i64 p.dom).wf = true
theorem PgIn.keep {w w' : World} {S : Nat → Prop} {cs : List Value} {p : Pg} (h : PgIn w S cs p) (hk : ∀ b o, S b → w'.cell? ⟨b, o, none⟩ = w.cell? ⟨b, o, none⟩) : PgIn w' S cs p := by
  obtain ⟨va, cv, ta, ct, he, h1, h2, h3⟩ := h
  exact ⟨va, cv, ta, ct, he, h1.keep hk, h2.keep hk, h3⟩
theorem PgIn.widen {w : World} {S S' : Nat → Prop} {cs : List Value} {p : Pg} (h : PgIn w S cs p) (hS : ∀ b, S b → S' b) : PgIn w S' cs p := by
  obtain ⟨va, cv, ta, ct, he, h1, h2, h3⟩ := h
  exact ⟨va, cv, ta, ct, he, h1.widen hS, h2.widen hS, h3⟩
theorem Kp.pg {W0 w : World} (h : Kp W0 w) {cs : List Value} {p : Pg} (hx : PgIn W0 (In_ W0) cs p) : PgIn w (In_ w) cs p := (hx.keep fun b o hb => h.2 b o hb).widen (In_.mono h.1.size)

/-- How many statements there are, of all threads. -/
def cntT (t : List (List St)) : Nat := (t.map cntL).sum
/-- Are all threads right, some statements having been counted? -/
def okT (vars dom : Int) (t : List (List St)) : Bool := t.all (okL vars dom 20)
def sumT (vars dom : Int) (t : List (List St)) : Bool := okT vars dom t && decide (cntT t ≤ 200)
/-- May a program be? -/
def rightP (p : Pg) : Bool :=
  decide (1 ≤ p.vars.length) && decide (p.vars.length ≤ 4) && p.vars.all nameB && decide (p.vars.Nodup) && decide (2 ≤ p.dom) && decide (p.dom ≤ 16) && decide (1 ≤ p.ths.length) && decide (p.ths.length ≤ 4) && sumT p.vars.length p.dom p.ths

theorem cntT_take (t : List (List St)) (i : Nat) (hi : i < t.length) : cntT (t.take (i + 1)) = cntT (t.take i) + cntL t[i] := by
  unfold cntT
  rw [List.take_succ_eq_append_getElem hi, List.map_append, List.sum_append]
  simp
theorem cntT_le (t : List (List St)) (i : Nat) : cntT (t.take i) ≤ cntT t := by
  unfold cntT
  conv => rhs; rw [← List.take_append_drop i t, List.map_append, List.sum_append]
  omega
theorem okT_step {vars dom : Int} {t : List (List St)} {i : Nat} (hi : i < t.length) (h : okT vars dom (t.take i) = true) (hx : okL vars dom 20 t[i] = true) : okT vars dom (t.take (i + 1)) = true := by
  unfold okT at *
  rw [List.take_succ_eq_append_getElem hi, List.all_append, h]
  simp [hx]
theorem okT_bad {vars dom : Int} {t : List (List St)} {i : Nat} (hi : i < t.length) (h : okL vars dom 20 t[i] = false) : sumT vars dom t = false := by
  unfold sumT okT
  have : t.all (okL vars dom 20) = false := by
    rw [List.all_eq_false]
    exact ⟨t[i], List.getElem_mem hi, by simp [h]⟩
  rw [this]; rfl
theorem sumT_many {vars dom : Int} {t : List (List St)} {i : Nat} (hi : i < t.length) (h : 200 < cntT (t.take i) + cntL t[i]) : sumT vars dom t = false := by
  unfold sumT
  have h1 := cntT_take t i hi
  have h2 := cntT_le t (i + 1)
  rw [decide_eq_false (by omega)]
  simp
end Go.Proofs.YtekmcoflagajkaaGreatDoor
namespace Go.Proofs.YtekmcoflagajkaaGreatDoor
open Go.RowKit

theorem tssl_info : ∃ i, Tryz.prog.info? 81 = some i ∧ i.zero = some (.slice none 0 0) ∧ i.size = 1 ∧ i.bytes = 24 := by
  have h : (Tryz.prog.info? 81).map (fun i => (i.zero, i.size, i.bytes)) = some (some (.slice none 0 0), 1, 24) := by kernel_rfl
  cases hi : Tryz.prog.info? 81 with
  | none => rw [hi] at h; cases h
  | some i =>
    rw [hi] at h
    simp only [Option.map_some, Option.some.injEq, Prod.mk.injEq] at h
    exact ⟨i, rfl, h.1, h.2.1, h.2.2⟩

/-- Rows of statements that have been collected. -/
def TsO (w : World) (B : Nat) (S : Nat → Prop) (v : Value) (T : List (List St)) : Prop :=
  ∃ LL : List (List St × Value), T = LL.map (·.1) ∧ w.ownsRow B 81 1 v LL.length (LL.map (·.2)) ∧ ∀ y ∈ LL, ∃ a c, y.2 = .slice a y.1.length c ∧ StRow w S a y.1.length c y.1
namespace TsO
variable {w w' : World} {B : Nat} {S S' : Nat → Prop} {v v' : Value} {T : List (List St)}
theorem nil_ : TsO w B S (.slice none 0 0) [] := ⟨[], rfl, World.ownsRow_nil _ _ _ _, fun _ h => (by simp at h)⟩
theorem own (h : TsO w B S v T) : ∀ k, v.ownBlock = some k → B ≤ k ∧ k < w.heap.size := by
  obtain ⟨LL, _, h1, _⟩ := h
  exact h1.lt
theorem sl (h : TsO w B S v T) : ∃ a c, v = .slice a T.length c := by
  obtain ⟨LL, rfl, h1, _⟩ := h
  obtain ⟨a, c, e⟩ := own_at h1
  exact ⟨a, c, by rw [e, List.length_map]⟩
/-- Kept while other blocks are written. -/
theorem kept {r : Option Nat} (h : TsO w B S v T) (hg : w.grownBy w' r) (hr : v.ownBlock = none ∨ v.ownBlock ≠ r) (hS : ∀ b, S b → b < w.heap.size ∧ some b ≠ r) : TsO w' B S v T := by
  obtain ⟨LL, h0, h1, h2⟩ := h
  have hk : ∀ b o, S b → w'.cell? ⟨b, o, none⟩ = w.cell? ⟨b, o, none⟩ := fun b o hb => World.cell?_of_block (hg.block b (hS b hb).1 (hS b hb).2)
  refine ⟨LL, h0, h1.kept hg (by rcases hr with h | h; exact .inl h; exact .inr h), fun y hy => ?_⟩
  obtain ⟨a, c, e, hr⟩ := h2 y hy
  exact ⟨a, c, e, hr.keep hk⟩
theorem widen (h : TsO w B S v T) (hS : ∀ b, S b → S' b) : TsO w B S' v T := by
  obtain ⟨LL, h0, h1, h2⟩ := h
  refine ⟨LL, h0, h1, fun y hy => ?_⟩
  obtain ⟨a, c, e, hr⟩ := h2 y hy
  exact ⟨a, c, e, hr.widen hS⟩
/-- As threads. -/
theorem ts (h : TsO w B S v T) : ∃ a cap, v = .slice a T.length cap ∧ TsIn w (fun b => S b ∨ (B ≤ b ∧ b < w.heap.size)) a T.length cap T := by
  obtain ⟨LL, rfl, h1, h2⟩ := h
  obtain ⟨a, cap, rfl⟩ := own_at h1
  classical
  refine ⟨a, cap, by simp, by simp, fun i => if h : i < LL.length then (h2 LL[i] (List.getElem_mem h)).choose else none, fun i => if h : i < LL.length then (h2 LL[i] (List.getElem_mem h)).choose_spec.choose else 0, ?_, fun i hi => ?_⟩
  · have h' := h1
    obtain ⟨_, h⟩ := h1
    rw [List.length_map]
    rcases h with ⟨e, h0⟩ | ⟨g, cap', cur, e, hb, hg, hle, hcm, hsz, htk⟩
    · have h0' : LL.length = 0 := h0
      simp only [Value.slice.injEq] at e
      obtain ⟨rfl, -, rfl⟩ := e
      exact ⟨by omega, Nat.zero_le _, fun hp => absurd hp (by omega)⟩
    · simp only [Value.slice.injEq, true_and] at e
      obtain ⟨rfl, rfl⟩ := e
      refine ⟨hle, hcm, fun _ => ⟨g, 0, rfl, .inr ⟨hb, (Array.getElem?_eq_some_iff.1 hg).1⟩, fun i hi j hj => ?_⟩⟩
      obtain rfl : j = 0 := by omega
      have hc := h'.cells (g := g) rfl i LL[i].2 (by simp [hi])
      rw [Addr.add_lit] at hc
      have e2 := (h2 LL[i] (List.getElem_mem hi)).choose_spec.choose_spec.1
      simp only [dif_pos hi, List.getElem?_map, List.getElem?_eq_getElem hi, Option.map_some, Option.getD_some]
      rw [Nat.mul_one, Nat.add_zero, hc]
      exact congrArg some e2
  · have hi' : i < LL.length := by simpa using hi
    simp only [dif_pos hi', List.getElem_map]
    exact (h2 LL[i] (List.getElem_mem hi')).choose_spec.choose_spec.2.widen fun b hb => .inl hb
end TsO

/-- append of a thread. -/
theorem step_tsO {ops : Array Oper} {o : Oper} {a : Act} {w : World} {B : Nat} {S : Nat → Prop} {K : Act → World → Prop} {Q : Exit → Act → World → Prop} {E : Prop} (s x : Operand) (v : Value) (T : List (List St)) (y : List St) (au : Option Addr) (cu : Nat)
    (hgd : o.guard = none) (ho : o.op = .call { callee := .builtin .append, args := #[s, x], argTypes := #[50, 50] })
    (hsv : a.eval s = v) (h0 : TsO w B S v T) (hu : StRow w S au y.length cu y) (hBle : B ≤ w.heap.size) (hS : ∀ b, S b → b < w.heap.size ∧ some b ≠ v.ownBlock) (hsrc : ∃ A c, a.eval x = .slice A 1 c ∧ SrcAt w 1 A 1 [.slice au y.length cu]) (hb : T.length ≤ 1000)
    (h : ∀ A c w', TsO w' B S (.slice A (T.length + 1) c) (T ++ [y]) → w.grownBy w' v.ownBlock → ((Value.slice A (T.length + 1) c).ownBlock = v.ownBlock ∨ (Value.slice A (T.length + 1) c).ownBlock = some w.heap.size) → K (a.put o.dst (.slice A (T.length + 1) c)) w') :
    if Region.wanted o (yielded ops a.tmps) = true then Oper.wp Tryz.prog o a w K Q else E := by
  obtain ⟨LL, rfl, h1, h2⟩ := h0
  obtain ⟨i0, hi, hz0, hz1, hz2⟩ := tssl_info
  rw [List.length_map] at hb h
  refine step_app hgd s x ho Tryz.underlying50 hi hz0 hz1 hz2 rfl (by decide) v LL.length (LL.map (·.2)) hsv h1 1 [.slice au y.length cu] hsrc (by intro q hq; simp at hq; subst hq; rfl) (by simp only [maxLen]; omega) (by omega) hBle fun v' w' g1 g2 g3 => ?_
  obtain ⟨A', c', rfl⟩ := own_at g1
  have hk : ∀ b o, S b → w'.cell? ⟨b, o, none⟩ = w.cell? ⟨b, o, none⟩ := fun b o hb => World.cell?_of_block (g2.block b (hS b hb).1 (hS b hb).2)
  refine h A' c' w' ⟨LL ++ [(y, .slice au y.length cu)], by simp, by simpa using g1, fun z hz => ?_⟩ g2 g3
  rcases List.mem_append.1 hz with hz | hz
  · obtain ⟨az, cz, e, hr⟩ := h2 z hz
    exact ⟨az, cz, e, hr.keep hk⟩
  · simp only [List.mem_singleton] at hz
    subst hz
    exact ⟨au, cu, rfl, hu.keep hk⟩
end Go.Proofs.YtekmcoflagajkaaGreatDoor
