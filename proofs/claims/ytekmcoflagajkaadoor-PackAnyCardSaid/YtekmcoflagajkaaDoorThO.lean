/- Threads' states that a call collects. -/
import Derived.Test.YtekmcoflagajkaaDoorUnpM
import Derived.Test.YtekmcoflagajkaaDoorIntO
import Derived.Test.YtekmcoflagajkaaDoorBufA
import Derived.Laws.OwnMore
namespace Go.Proofs.YtekmcoflagajkaaDoor
open Go.RowKit

/-- Cell j of element i of a row whose elements have sz cells each. -/
theorem flat_at {α : Type} (f : α → List Value) (sz : Nat) (hf : ∀ x, (f x).length = sz) : ∀ (l : List α) (i j : Nat) (hi : i < l.length), j < sz → (l.flatMap f)[i * sz + j]? = (f l[i])[j]?
  | [], i, j, hi, _ => by simp at hi
  | x :: l, 0, j, _, hj => by
    simp only [List.flatMap_cons, Nat.zero_mul, Nat.zero_add, List.getElem_cons_zero]
    rw [List.getElem?_append_left (by rw [hf]; exact hj)]
  | x :: l, i + 1, j, hi, hj => by
    have ih := flat_at f sz hf l i j (by simpa using hi) hj
    simp only [List.flatMap_cons, List.getElem_cons_succ]
    rw [List.getElem?_append_right (by rw [hf, Nat.succ_mul]; omega), hf, ← ih]
    congr 1
    rw [Nat.succ_mul]; omega
theorem flat_size {α : Type} (f : α → List Value) (sz : Nat) (hf : ∀ x, (f x).length = sz) (l : List α) : (l.flatMap f).length = l.length * sz := by
  induction l with
  | nil => simp
  | cons x l ih => simp only [List.flatMap_cons, List.length_append, hf, ih, List.length_cons, Nat.succ_mul]; omega
/-- A row of the call's own, element by element. -/
theorem Sl.of_own {α : Type} (f : α → List Value) (sz : Nat) (hf : ∀ x, (f x).length = sz) {w : World} {base : Nat} {T : TypeId} {v : Value} {l : List α} (h : w.ownsRow base T sz v l.length (l.flatMap f)) :
    ∃ a cap, v = .slice a l.length cap ∧ Sl w (fun b => base ≤ b ∧ b < w.heap.size) sz a l.length cap (fun i => match l[i]? with | some x => f x | none => []) := by
  have h' := h
  obtain ⟨_, h⟩ := h
  rcases h with ⟨rfl, h0⟩ | ⟨g, cap, cur, rfl, hb, hg, hle, hcm, hsz, htk⟩
  · exact ⟨none, 0, by rw [h0], by omega, Nat.zero_le _, fun hp => absurd hp (by omega)⟩
  · refine ⟨some ⟨g, 0, none⟩, cap, rfl, hle, hcm, fun _ => ⟨g, 0, rfl, ⟨hb, (Array.getElem?_eq_some_iff.1 hg).1⟩, fun i hi j hj => ?_⟩⟩
    have hfl := flat_at f sz hf l i j hi hj
    simp only [List.getElem?_eq_getElem hi]
    have hlt : j < (f l[i]).length := by rw [hf]; exact hj
    rw [List.getElem?_eq_getElem hlt] at hfl ⊢
    have := h'.cells (g := g) rfl _ _ hfl
    have hadd : (⟨g, 0, none⟩ : Addr).add (i * sz + j) = ⟨g, 0 + (i * sz + j), none⟩ := by
      unfold Addr.add
      split
      · rename_i h; rw [h]
      · simp
    rwa [hadd] at this

theorem thr_info : (Tryd.prog.info? 51).map (fun i => (i.zero, i.size, i.bytes)) = some (some (.agg #[.int .i64 0, .int .i64 0, .int .i64 0, .int .i64 0, .int .i64 0, .slice none 0 0]), 6, 64) := by kernel_rfl

/-- A thread's cells. -/
def thC (y : Thr × Option Addr × Nat) : List Value := y.1.cells y.2.1 y.2.2
theorem thC_len (y : Thr × Option Addr × Nat) : (thC y).length = 6 := rfl
theorem thC_one (l : List (Thr × Option Addr × Nat)) : ∀ u ∈ l.flatMap thC, u.oneCell' = true := by
  intro u hu
  obtain ⟨x, _, hx⟩ := List.mem_flatMap.1 hu
  simp [thC, Thr.cells] at hx
  rcases hx with rfl | rfl | rfl | rfl | rfl | rfl <;> rfl

/-- append of one thread's state. -/
theorem list_th {ops : Array Oper} {rest : List Oper} {o : Oper} {a : Act} {w : World} {base : Nat} {Q : Exit → Act → World → Prop} (s x : Operand) (v : Value) (n : Nat) (xs : List Value) (m : Nat) (news : List Value)
    (hgd : o.guard = none) (ho : o.op = .call { callee := .builtin .append, args := #[s, x], argTypes := #[27, 27] })
    (hsv : a.eval s = v) (hown : w.ownsRow base 51 6 v n xs) (hsrc : ∃ A c, a.eval x = .slice A m c ∧ SrcAt w 6 A m news) (h1 : ∀ u ∈ news, u.oneCell' = true) (hb : n + m ≤ 100000) (hbase : base ≤ w.heap.size)
    (h : ∀ v' w', w'.ownsRow base 51 6 v' (n + m) (xs ++ news) → w.grownBy w' v.ownBlock → (v'.ownBlock = v.ownBlock ∨ v'.ownBlock = some w.heap.size) → wpList Tryd.prog ops Q rest (a.put o.dst v') w') :
    wpList Tryd.prog ops Q (o :: rest) a w := by
  obtain ⟨i0, hi, hz0, hz1, hz2⟩ := info_parts thr_info
  exact list_app hgd s x ho Tryd.underlying27 hi hz0 hz1 hz2 rfl (by decide) v n xs hsv hown m news hsrc h1 (by simp only [maxLen]; omega) (by omega) hbase h
theorem step_th {ops : Array Oper} {o : Oper} {a : Act} {w : World} {base : Nat} {K : Act → World → Prop} {Q : Exit → Act → World → Prop} {E : Prop} (s x : Operand) (v : Value) (n : Nat) (xs : List Value) (m : Nat) (news : List Value)
    (hgd : o.guard = none) (ho : o.op = .call { callee := .builtin .append, args := #[s, x], argTypes := #[27, 27] })
    (hsv : a.eval s = v) (hown : w.ownsRow base 51 6 v n xs) (hsrc : ∃ A c, a.eval x = .slice A m c ∧ SrcAt w 6 A m news) (h1 : ∀ u ∈ news, u.oneCell' = true) (hb : n + m ≤ 100000) (hbase : base ≤ w.heap.size)
    (h : ∀ v' w', w'.ownsRow base 51 6 v' (n + m) (xs ++ news) → w.grownBy w' v.ownBlock → (v'.ownBlock = v.ownBlock ∨ v'.ownBlock = some w.heap.size) → K (a.put o.dst v') w') :
    if Region.wanted o (yielded ops a.tmps) = true then Oper.wp Tryd.prog o a w K Q else E := by
  obtain ⟨i0, hi, hz0, hz1, hz2⟩ := info_parts thr_info
  exact step_app hgd s x ho Tryd.underlying27 hi hz0 hz1 hz2 rfl (by decide) v n xs hsv hown m news hsrc h1 (by simp only [maxLen]; omega) (by omega) hbase h

theorem grown_set (w : World) (b o : Nat) (u : Value) : w.grownBy (w.setCell ⟨b, o, none⟩ u) (some b) :=
  ⟨rfl, rfl, rfl, by simp [World.setCell], fun k _ hk => Below.heap_setCell _ _ _ _ (fun e => hk (by rw [e]))⟩
theorem grown_trans {a b c : World} {r : Option Nat} (h : a.grownBy b r) (k : b.grownBy c r) : a.grownBy c r :=
  ⟨k.os.trans h.os, k.tape.trans h.tape, k.output.trans h.output, Nat.le_trans h.size k.size, fun i hi hr => (k.block i (Nat.lt_of_lt_of_le hi h.size) hr).trans (h.block i hi hr)⟩
/-- What came later than w is free to be written. -/
theorem grown_new {a b c : World} {r : Option Nat} (h : a.grownBy b r) {q : Option Nat} (k : b.grownBy c q) (hq : ∀ n, q = some n → a.heap.size ≤ n) : a.grownBy c r :=
  ⟨k.os.trans h.os, k.tape.trans h.tape, k.output.trans h.output, Nat.le_trans h.size k.size, fun i hi hr => (k.block i (Nat.lt_of_lt_of_le hi h.size) (fun e => by have := hq i e.symm; omega)).trans (h.block i hi hr)⟩
theorem grown_alloc {a b : World} {r : Option Nat} (h : a.grownBy b r) (o : Obj) : a.grownBy (b.alloc o) r :=
  ⟨h.os, h.tape, h.output, by have := h.size; simp; omega, fun i hi hr => (Below.heap_alloc _ _ _ (Nat.lt_of_lt_of_le hi h.size)).trans (h.block i hi hr)⟩
theorem grown_drew {a b : World} {r : Option Nat} (h : a.grownBy b r) : a.grownBy b.drew r := ⟨h.os, h.tape, h.output, h.size, h.block⟩
theorem grown_pre {w w6 : World} {o : Obj} {r : Option Nat} (h : ((w.alloc o).drew).grownBy w6 r) : w.grownBy w6 r :=
  ⟨h.os, h.tape, h.output, by have := h.size; simp at this; omega, fun k hk hr => (h.block k (by simp; omega) hr).trans (Below.heap_alloc _ _ _ hk)⟩
theorem grown_pre' {w w6 : World} {o : Obj} {r : Option Nat} (h : (w.alloc o).grownBy w6 r) : w.grownBy w6 r :=
  ⟨h.os, h.tape, h.output, by have := h.size; simp at this; omega, fun k hk hr => (h.block k (by simp; omega) hr).trans (Below.heap_alloc _ _ _ hk)⟩
theorem at_pre {w : World} {o : Obj} {a b : Option Nat} (h : a = b ∨ a = some (w.alloc o).heap.size) : a = b ∨ ∃ n, a = some n ∧ w.heap.size ≤ n := by
  rcases h with h | h
  · exact .inl h
  · exact .inr ⟨_, h, by simp⟩
theorem grown_below {a b : World} {r : Option Nat} (h : a.grownBy b r) {n : Nat} (hn : n ≤ a.heap.size) (hr : ∀ k, r = some k → n ≤ k) : Below n a b :=
  ⟨h.os, h.tape, h.output, h.size, fun k hk => h.block k (by omega) (fun e => by have := hr k e.symm; omega)⟩
theorem below_grown {a b : World} (h : Below a.heap.size a b) (r : Option Nat) : a.grownBy b r := ⟨h.os, h.tape, h.output, h.size, fun k hk _ => h.block k hk⟩

/-- A state's box. -/
structure SBox (w : World) (sb : Nat) (v mv : Value) (bad : Bool) : Prop where
  lt : sb < w.heap.size
  c0 : w.cell? ⟨sb, 0, none⟩ = some v
  c1 : w.cell? ⟨sb, 1, none⟩ = some mv
  c2 : w.cell? ⟨sb, 2, none⟩ = some (.bool bad)
  f0 : ∀ o, w.frozen? ⟨sb, o, none⟩ = false
theorem SBox.block {w w' : World} {sb : Nat} {v mv : Value} {bad : Bool} (h : SBox w sb v mv bad) (hs : w.heap.size ≤ w'.heap.size) (hb : w'.heap[sb]? = w.heap[sb]?) : SBox w' sb v mv bad :=
  ⟨Nat.lt_of_lt_of_le h.lt hs, (World.cell?_of_block (w := w) (a := ⟨sb, 0, none⟩) hb).trans h.c0, (World.cell?_of_block (w := w) (a := ⟨sb, 1, none⟩) hb).trans h.c1, (World.cell?_of_block (w := w) (a := ⟨sb, 2, none⟩) hb).trans h.c2,
    fun o => (World.frozen?_of_block (w := w) (a := ⟨sb, o, none⟩) hb).trans (h.f0 o)⟩
theorem SBox.grown {w w' : World} {sb : Nat} {v mv : Value} {bad : Bool} {r : Option Nat} (h : SBox w sb v mv bad) (hg : w.grownBy w' r) (hr : r ≠ some sb) : SBox w' sb v mv bad :=
  h.block hg.size (hg.block sb h.lt fun e => hr e.symm)

/-- Where the buffers of threads lie that have been collected: not in the row itself. -/
def Sx (w : World) (B : Nat) (v : Value) : Nat → Prop := fun b => B ≤ b ∧ b < w.heap.size ∧ v.ownBlock ≠ some b
/-- Threads' states that have been collected. -/
def ThO (w : World) (B : Nat) (v : Value) (L : List Thr) : Prop :=
  ∃ LL : List (Thr × Option Addr × Nat), L = LL.map (·.1) ∧ w.ownsRow B 51 6 v LL.length (LL.flatMap thC) ∧ ∀ y ∈ LL, EnIn w (Sx w B v) y.2.1 y.1.buf.length y.2.2 y.1.buf
theorem ThO.nil {w : World} {B : Nat} : ThO w B (.slice none 0 0) [] := ⟨[], rfl, World.ownsRow_nil _ _ _ _, fun _ h => (by simp at h)⟩
theorem ThO.own {w : World} {B : Nat} {v : Value} {L : List Thr} (h : ThO w B v L) : ∀ k, v.ownBlock = some k → B ≤ k ∧ k < w.heap.size := by
  obtain ⟨LL, _, h1, _⟩ := h
  exact h1.lt
/-- Kept while other blocks are written. -/
theorem ThO.grown {w w' : World} {B : Nat} {v : Value} {L : List Thr} {r : Option Nat} (h : ThO w B v L) (hg : w.grownBy w' r) (hr : ∀ k, r = some k → k < B) : ThO w' B v L := by
  obtain ⟨LL, h0, h1, h2⟩ := h
  refine ⟨LL, h0, h1.kept hg ?_, fun y hy => ?_⟩
  · rcases hv : v.ownBlock with _ | k
    · exact .inl rfl
    · right
      intro e
      have := h1.lt k hv
      have := hr k e.symm
      omega
  · refine ((h2 y hy).keep fun b o hb => ?_).widen fun b hb => ⟨hb.1, Nat.lt_of_lt_of_le hb.2.1 hg.size, hb.2.2⟩
    exact World.cell?_of_block (w := w) (a := ⟨b, o, none⟩) (hg.block b hb.2.1 (fun e => by have := hr b e.symm; have := hb.1; omega))
/-- Kept while blocks are written that came later. -/
theorem ThO.later {w w' : World} {B n : Nat} {v : Value} {L : List Thr} (h : ThO w B v L) (hg : Below n w w') (hn : w.heap.size ≤ n) : ThO w' B v L := by
  obtain ⟨LL, h0, h1, h2⟩ := h
  have hg' : w.grownBy w' none := ⟨hg.os, hg.tape, hg.output, hg.size, fun k hk _ => hg.block k (by omega)⟩
  refine ⟨LL, h0, h1.kept hg' ?_, fun y hy => ?_⟩
  · rcases hv : v.ownBlock with _ | k
    · exact .inl rfl
    · exact .inr (by simp)
  · refine ((h2 y hy).keep fun b o hb => ?_).widen fun b hb => ⟨hb.1, Nat.lt_of_lt_of_le hb.2.1 hg.size, hb.2.2⟩
    exact hg.cell (p := ⟨b, o, none⟩) (by have := hb.2.1; show b < n; omega)
/-- Behind append of one more, whose buffer lies in the call's own blocks. -/
theorem ThO.app {w w' : World} {B : Nat} {v v' : Value} {LL : List (Thr × Option Addr × Nat)} {x : Thr} {ar : Option Addr} {kr : Nat}
    (h1 : w'.ownsRow B 51 6 v' (LL.length + 1) (LL.flatMap thC ++ thC (x, ar, kr))) (hg : w.grownBy w' v.ownBlock) (hat : v'.ownBlock = v.ownBlock ∨ ∃ n, v'.ownBlock = some n ∧ w.heap.size ≤ n)
    (h2 : ∀ y ∈ LL, EnIn w (Sx w B v) y.2.1 y.1.buf.length y.2.2 y.1.buf) (hx : EnIn w (Sx w B v) ar x.buf.length kr x.buf) : ThO w' B v' (LL.map (·.1) ++ [x]) := by
  have key : ∀ {a : Option Addr} {n c : Nat} {l : List (Int × Int)}, EnIn w (Sx w B v) a n c l → EnIn w' (Sx w' B v') a n c l := fun he => by
    refine (he.keep fun b o hb => ?_).widen fun b hb => ⟨hb.1, Nat.lt_of_lt_of_le hb.2.1 hg.size, ?_⟩
    · exact World.cell?_of_block (w := w) (a := ⟨b, o, none⟩) (hg.block b hb.2.1 (fun e => hb.2.2 e.symm))
    · rcases hat with e | ⟨n, e, hn⟩
      · rw [e]; exact hb.2.2
      · rw [e]; intro h; have := hb.2.1; simp at h; omega
  refine ⟨LL ++ [(x, ar, kr)], by simp, by simpa using h1, fun y hy => ?_⟩
  rcases List.mem_append.1 hy with hy | hy
  · exact key (h2 y hy)
  · simp at hy
    subst hy
    exact key hx
theorem ThO.in_ {w : World} {B : Nat} {v : Value} {L : List Thr} (h : ThO w B v L) : ∃ a cap, v = .slice a L.length cap ∧ ThrIn w (fun b => B ≤ b ∧ b < w.heap.size) a L.length cap L := by
  obtain ⟨LL, rfl, h1, h2⟩ := h
  obtain ⟨a, cap, rfl, hs⟩ := Sl.of_own thC 6 thC_len h1
  refine ⟨a, cap, by simp, rfl, fun i => (LL[i]?.map (·.2.1)).getD none, fun i => (LL[i]?.map (·.2.2)).getD 0, ?_, fun i hi => ?_⟩
  · have hs' := hs
    rw [List.length_map]
    refine ⟨hs'.le, hs'.mx, fun h0 => ?_⟩
    obtain ⟨b, off, e, hb, hc⟩ := hs'.at_ h0
    refine ⟨b, off, e, hb, fun i hi j hj => ?_⟩
    rw [hc i hi j hj]
    simp only [List.getElem?_eq_getElem hi, List.getElem?_map, Option.map_some, Option.getD_some]
    rfl
  · have hi' : i < LL.length := by simpa using hi
    have := h2 LL[i] (List.getElem_mem hi')
    simp only [List.getElem?_eq_getElem hi', Option.map_some, Option.getD_some, List.getElem_map]
    exact this.widen fun b hb => ⟨hb.1, hb.2.1⟩
end Go.Proofs.YtekmcoflagajkaaDoor
