/- The program's writer of instructions: its memory, and how it leads. -/
import Derived.Test.YtcgpobeidlimkaaGreatDoorInsO
import Derived.Test.YtcgpobeidlimkaaGreatDoorKp
import Derived.Deep.RegionLaw
import Derived.BigRegion
namespace Go.Proofs.YtcgpobeidlimkaaGreatDoor
open Go.RowKit

/-- An instruction leads elsewhere. -/
def setTo (L : List Ins) (i : Nat) (n : Nat) : List Ins := match L[i]? with | some x => L.set i { x with to := n } | none => L
theorem setTo_len (L : List Ins) (i n : Nat) : (setTo L i n).length = L.length := by
  unfold setTo; split <;> simp
theorem setTo_app (L M : List Ins) (x : Ins) (n : Nat) : setTo (L ++ x :: M) L.length n = L ++ { x with to := (n : Int) } :: M := by
  unfold setTo
  rw [List.getElem?_append_right (Nat.le_refl _)]
  simp

/-- What turns while the writer writes: its own block, and its row's; which comes later, if it is another one. -/
structure Wx (wb : Nat) (w : World) (v : Value) (w' : World) (v' : Value) : Prop where
  os : w'.os = w.os
  tape : w'.tape = w.tape
  output : w'.output = w.output
  size : w.heap.size ≤ w'.heap.size
  block : ∀ k, k < w.heap.size → k ≠ wb → v.ownBlock ≠ some k → w'.heap[k]? = w.heap[k]?
  own : v'.ownBlock = v.ownBlock ∨ ∃ n, v'.ownBlock = some n ∧ w.heap.size ≤ n
namespace Wx
variable {wb : Nat} {w w1 w2 : World} {v v1 v2 : Value}
theorem refl : Wx wb w v w v := ⟨rfl, rfl, rfl, Nat.le_refl _, fun _ _ _ _ => rfl, .inl rfl⟩
theorem trans (h : Wx wb w v w1 v1) (k : Wx wb w1 v1 w2 v2) : Wx wb w v w2 v2 :=
  ⟨k.os.trans h.os, k.tape.trans h.tape, k.output.trans h.output, Nat.le_trans h.size k.size,
   fun i hi h1 h2 => (k.block i (Nat.lt_of_lt_of_le hi h.size) h1 (by
      rcases h.own with e | ⟨n, e, hn⟩
      · rw [e]; exact h2
      · rw [e]; intro h; simp at h; omega)).trans (h.block i hi h1 h2),
   by
    rcases k.own with e | ⟨n, e, hn⟩
    · rw [e]; exact h.own
    · exact .inr ⟨n, e, Nat.le_trans h.size hn⟩⟩
theorem keepOwn (h : Wx wb w v w1 v1) {k : Nat} (hk : k < w.heap.size) (hne : v.ownBlock ≠ some k) : v1.ownBlock ≠ some k := by
  rcases h.own with e | ⟨n, e, hn⟩
  · rw [e]; exact hne
  · rw [e]; intro h; simp at h; omega
theorem cell (h : Wx wb w v w1 v1) {k o : Nat} (hk : k < w.heap.size) (h1 : k ≠ wb) (h2 : v.ownBlock ≠ some k) : w1.cell? ⟨k, o, none⟩ = w.cell? ⟨k, o, none⟩ := World.cell?_of_block (h.block k hk h1 h2)
theorem below (h : Wx wb w v w1 v1) {B : Nat} (hB : B ≤ w.heap.size) (h1 : B ≤ wb) (h2 : ∀ k, v.ownBlock = some k → B ≤ k) : Below B w w1 :=
  ⟨h.os, h.tape, h.output, h.size, fun k hk => h.block k (by omega) (by omega) (fun e => by have := h2 k e; omega)⟩
/-- What only adds. -/
theorem of_below (h : Below w.heap.size w w1) : Wx wb w v w1 v := ⟨h.os, h.tape, h.output, h.size, fun k hk _ _ => h.block k hk, .inl rfl⟩
/-- A store into the writer's block. -/
theorem set (w : World) (v v1 : Value) (u : Value) (h : v1.ownBlock = v.ownBlock) : Wx wb w v (w.setCell ⟨wb, 0, none⟩ u) v1 :=
  ⟨rfl, rfl, rfl, by simp, fun k _ h1 _ => Below.heap_setCell _ _ _ _ (by simpa using h1), .inl h⟩
theorem of_grown (h : w.grownBy w1 v.ownBlock) (ho : v1.ownBlock = v.ownBlock ∨ ∃ n, v1.ownBlock = some n ∧ w.heap.size ≤ n) : Wx wb w v w1 v1 :=
  ⟨h.os, h.tape, h.output, h.size, fun k hk _ h2 => h.block k hk (fun e => h2 e.symm), ho⟩
end Wx

/-- The writer: block wb leads to a row of the call's own; what is within lies in S, below n0. -/
structure WrIs (w : World) (n0 : Nat) (S : Nat → Prop) (wb : Nat) (v : Value) (L : List Ins) : Prop where
  lo : n0 ≤ wb
  hi : wb < w.heap.size
  c0 : w.cell? ⟨wb, 0, none⟩ = some v
  fr : w.frozen? ⟨wb, 0, none⟩ = false
  row : InsO w n0 S v L
  ne : v.ownBlock ≠ some wb
  sb : ∀ b, S b → b < n0
namespace WrIs
variable {w w' : World} {n0 wb : Nat} {S : Nat → Prop} {v : Value} {L : List Ins}
theorem below (h : WrIs w n0 S wb v L) (hb : Below w.heap.size w w') : WrIs w' n0 S wb v L :=
  ⟨h.lo, Nat.lt_of_lt_of_le h.hi hb.size, (hb.cell (p := ⟨wb, 0, none⟩) h.hi).trans h.c0, (World.frozen?_of_block (a := ⟨wb, 0, none⟩) (hb.block _ h.hi)).trans h.fr,
   h.row.kept (r := none) ⟨hb.os, hb.tape, hb.output, hb.size, fun k hk _ => hb.block k hk⟩ (by cases v.ownBlock <;> simp) (fun b hb' => ⟨by have := h.sb b hb'; have := h.lo; have := h.hi; omega, by simp⟩), h.ne, h.sb⟩
theorem own (h : WrIs w n0 S wb v L) : ∀ k, v.ownBlock = some k → n0 ≤ k ∧ k < w.heap.size := h.row.own
end WrIs

/-- The boxes of a function that tells where an instruction leads. -/
structure LdB (w : World) (wb pb ab : Nat) (v : Value) (n : Nat) : Prop where
  hp : pb < w.heap.size
  ha : ab < w.heap.size
  pne : pb ≠ wb
  ane : ab ≠ wb
  po : v.ownBlock ≠ some pb
  ao : v.ownBlock ≠ some ab
  cp : w.cell? ⟨pb, 0, none⟩ = some (.pointer (some ⟨wb, 0, none⟩))
  ca : w.cell? ⟨ab, 0, none⟩ = some (.int .i64 n)
theorem LdB.keep {w w' : World} {wb pb ab : Nat} {v v' : Value} {n : Nat} (h : LdB w wb pb ab v n) (k : Wx wb w v w' v') : LdB w' wb pb ab v' n :=
  ⟨Nat.lt_of_lt_of_le h.hp k.size, Nat.lt_of_lt_of_le h.ha k.size, h.pne, h.ane, k.keepOwn h.hp h.po, k.keepOwn h.ha h.ao, (k.cell h.hp h.pne h.po).trans h.cp, (k.cell h.ha h.ane h.ao).trans h.ca⟩

theorem setTo_one (L : List Ins) (i n : Nat) (hi : i < L.length) : setTo L i n = L.set i { L[i] with to := (n : Int) } := by
  unfold setTo; rw [List.getElem?_eq_getElem hi]
/-- An instruction of the row leads elsewhere: one cell is written. -/
theorem InsO.toSet {w : World} {n0 : Nat} {S : Nat → Prop} {g cap m : Nat} {L : List Ins} (h : InsO w n0 S (.slice (some ⟨g, 0, none⟩) m cap) L) (hS : ∀ b, S b → b < n0) (i n : Nat) (hi : i < L.length) :
    InsO (w.setCell ⟨g, i * 12 + 11, none⟩ (.int .i64 n)) n0 S (.slice (some ⟨g, 0, none⟩) m cap) (setTo L i n) ∧ w.grownBy (w.setCell ⟨g, i * 12 + 11, none⟩ (.int .i64 n)) (some g) := by
  obtain ⟨LL, rfl, h1, h2⟩ := h
  have hg := (h1.lt g rfl).1
  have hm : m = LL.length := by
    obtain ⟨a, c, e⟩ := own_at h1
    simp only [Value.slice.injEq] at e
    exact e.2.1
  subst hm
  have hi' : i < LL.length := by simpa using hi
  have hst := h1.stored (i * 12 + 11) (.int .i64 n)
  refine ⟨⟨LL.set i ({ LL[i].1 with to := (n : Int) }, LL[i].2), ?_, ?_, fun y hy => ?_⟩, hst.2⟩
  · rw [setTo_one _ _ _ hi, List.map_set]; simp
  · rw [List.length_set, ← flat_set insC 12 insC_len LL i 11 hi' ({ LL[i].1 with to := (n : Int) }, LL[i].2) (.int .i64 n) (by omega) rfl]
    exact hst.1
  · have hk : ∀ b o, S b → (w.setCell ⟨g, i * 12 + 11, none⟩ (.int .i64 n)).cell? ⟨b, o, none⟩ = w.cell? ⟨b, o, none⟩ := fun b o hb => World.cell?_setCell_other _ _ _ _ (by have := hS b hb; intro e; injection e; omega)
    rcases List.mem_or_eq_of_mem_set hy with hy | rfl
    · exact ⟨(h2 y hy).1.keep hk, (h2 y hy).2.keep hk⟩
    · have := h2 LL[i] (List.getElem_mem hi')
      exact ⟨this.1.keep hk, this.2.keep hk⟩
end Go.Proofs.YtcgpobeidlimkaaGreatDoor
