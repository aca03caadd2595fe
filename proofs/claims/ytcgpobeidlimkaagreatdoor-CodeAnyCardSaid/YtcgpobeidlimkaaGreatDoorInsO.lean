/- Instructions that a call collects. -/
import Derived.Test.YtcgpobeidlimkaaGreatDoorRows
import Derived.Test.YtcgpobeidlimkaaGreatDoorApp
import Derived.Test.YtcgpobeidlimkaaGreatDoorCpM
import Derived.Laws.OwnMore
namespace Go.Proofs.YtcgpobeidlimkaaGreatDoor
open Go.RowKit

/-- Cell j of element i of a row whose elements have sz cells each. -/
theorem flat_at {α : Type} (f : α → List Value) (sz : Nat) (hf : ∀ x, (f x).length = sz) : ∀ (l : List α) (i j : Nat) (hi : i < l.length), j < sz → (l.flatMap f)[i * sz + j]? = (f l[i])[j]?
  | [], i, j, hi, _ => by simp at hi
  | x :: l, 0, j, _, hj => by
    simp only [List.flatMap_cons, Nat.zero_mul, Nat.zero_add, List.getElem_cons_zero]
    rw [List.getElem?_append_left (by rw [hf]; exact hj)]
  | x :: l, i + 1, j, hi, hj => by
    have ih := flat_at f sz hf l i j (by simpa using hi) hj
    simp only [List.flatMap_cons, List.getElem_cons_succ]
    rw [List.getElem?_append_right (by rw [hf, Nat.succ_mul]; omega), hf, ← ih]
    congr 1
    rw [Nat.succ_mul]; omega
theorem flat_size {α : Type} (f : α → List Value) (sz : Nat) (hf : ∀ x, (f x).length = sz) (l : List α) : (l.flatMap f).length = l.length * sz := by
  induction l with
  | nil => simp
  | cons x l ih => simp only [List.flatMap_cons, List.length_append, hf, ih, List.length_cons, Nat.succ_mul]; omega
theorem flat_set {α : Type} (f : α → List Value) (sz : Nat) (hf : ∀ x, (f x).length = sz) : ∀ (l : List α) (i j : Nat) (hi : i < l.length) (y : α) (u : Value), j < sz → f y = (f l[i]).set j u → (l.flatMap f).set (i * sz + j) u = (l.set i y).flatMap f
  | [], i, j, hi, _, _, _, _ => by simp at hi
  | x :: l, 0, j, _, y, u, hj, he => by
    simp only [List.flatMap_cons, Nat.zero_mul, Nat.zero_add, List.set_cons_zero]
    rw [List.set_append_left _ _ (by rw [hf]; exact hj), he]
    rfl
  | x :: l, i + 1, j, hi, y, u, hj, he => by
    have ih := flat_set f sz hf l i j (by simpa using hi) y u hj (by simpa using he)
    simp only [List.flatMap_cons, List.set_cons_succ]
    rw [List.set_append_right _ _ (by rw [hf, Nat.succ_mul]; omega), hf, ← ih]
    congr 2
    rw [Nat.succ_mul]; omega
theorem own_at {w : World} {B : Nat} {T : TypeId} {sz n : Nat} {v : Value} {xs : List Value} (h : w.ownsRow B T sz v n xs) : ∃ a c, v = .slice a n c := by
  obtain ⟨_, h⟩ := h
  rcases h with ⟨rfl, rfl⟩ | ⟨g, cap, cur, rfl, _⟩
  · exact ⟨_, _, rfl⟩
  · exact ⟨_, _, rfl⟩
theorem own_down {w : World} {B B' : Nat} {T : TypeId} {sz n : Nat} {v : Value} {xs : List Value} (h : w.ownsRow B T sz v n xs) (hB : B' ≤ B) : w.ownsRow B' T sz v n xs := by
  obtain ⟨h0, h⟩ := h
  refine ⟨h0, ?_⟩
  rcases h with h | ⟨g, cap, cur, h1, h2, h3⟩
  · exact .inl h
  · exact .inr ⟨g, cap, cur, h1, Nat.le_trans hB h2, h3⟩
/-- An own row, as a source. -/
theorem src_own {w : World} {B : Nat} {T : TypeId} {sz n : Nat} {v : Value} {xs : List Value} (h : w.ownsRow B T sz v n xs) : ∃ A c, v = .slice A n c ∧ SrcAt w sz A n xs := by
  have h' := h
  obtain ⟨h0, h⟩ := h
  rcases h with ⟨rfl, rfl⟩ | ⟨g, cap, cur, rfl, hb, hg, hle, hcm, hsz, htk⟩
  · exact ⟨none, 0, rfl, ⟨h0, ⟨fun _ => rfl, fun ad h => by cases h⟩⟩⟩
  · refine ⟨some ⟨g, 0, none⟩, cap, rfl, ⟨h0, ⟨fun h => (by cases h), fun ad had j u hu => ?_⟩⟩⟩
    obtain rfl : (⟨g, 0, none⟩ : Addr) = ad := by simpa using had
    exact h'.cells (g := g) rfl j u hu

/-- Eight cells: two expressions'. -/
structure V8 where
  u0 : Value
  u1 : Value
  u2 : Value
  u3 : Value
  v0 : Value
  v1 : Value
  v2 : Value
  v3 : Value
/-- An instruction's cells. -/
def insC (y : Ins × V8) : List Value := [.int .i64 y.1.op, .int .i64 y.1.reg, .int .i64 y.1.v, y.2.u0, y.2.u1, y.2.u2, y.2.u3, y.2.v0, y.2.v1, y.2.v2, y.2.v3, .int .i64 y.1.to]
theorem insC_len (y : Ins × V8) : (insC y).length = 12 := rfl
def InsE (w : World) (S : Nat → Prop) (y : Ins × V8) : Prop := ExIn w S [y.2.u0, y.2.u1, y.2.u2, y.2.u3] y.1.a ∧ ExIn w S [y.2.v0, y.2.v1, y.2.v2, y.2.v3] y.1.b
theorem insC_one {w : World} {S : Nat → Prop} {l : List (Ins × V8)} (h : ∀ y ∈ l, InsE w S y) : ∀ u ∈ l.flatMap insC, u.oneCell' = true := by
  intro u hu
  obtain ⟨x, hm, hx⟩ := List.mem_flatMap.1 hu
  obtain ⟨a0, a1, a2, a3⟩ := (h x hm).1.ones
  obtain ⟨b0, b1, b2, b3⟩ := (h x hm).2.ones
  simp only [insC, List.mem_cons, List.not_mem_nil, or_false] at hx
  rcases hx with rfl | rfl | rfl | rfl | rfl | rfl | rfl | rfl | rfl | rfl | rfl | rfl <;> first | rfl | assumption

theorem ins_info : (Tryz.prog.info? 48).map (fun i => (i.zero, i.size, i.bytes)) = some (some (.agg #[.int .i64 0, .int .i64 0, .int .i64 0, .int .i64 0, .int .i64 0, .int .u8 0, .slice none 0 0, .int .i64 0, .int .i64 0, .int .u8 0, .slice none 0 0, .int .i64 0]), 12, 128) := by kernel_rfl

theorem info_parts_ins : ∃ i, Tryz.prog.info? 48 = some i ∧ i.zero = some (.agg #[.int .i64 0, .int .i64 0, .int .i64 0, .int .i64 0, .int .i64 0, .int .u8 0, .slice none 0 0, .int .i64 0, .int .i64 0, .int .u8 0, .slice none 0 0, .int .i64 0]) ∧ i.size = 12 ∧ i.bytes = 128 := by
  have h := ins_info
  cases hi : Tryz.prog.info? 48 with
  | none => rw [hi] at h; cases h
  | some i =>
    rw [hi] at h
    simp only [Option.map_some, Option.some.injEq, Prod.mk.injEq] at h
    exact ⟨i, rfl, h.1, h.2.1, h.2.2⟩
/-- append of instructions. -/
theorem list_ins {ops : Array Oper} {rest : List Oper} {o : Oper} {a : Act} {w : World} {base : Nat} {Q : Exit → Act → World → Prop} (s x : Operand) (v : Value) (n : Nat) (xs : List Value) (m : Nat) (news : List Value)
    (hgd : o.guard = none) (ho : o.op = .call { callee := .builtin .append, args := #[s, x], argTypes := #[43, 43] })
    (hsv : a.eval s = v) (hown : w.ownsRow base 48 12 v n xs) (hsrc : ∃ A c, a.eval x = .slice A m c ∧ SrcAt w 12 A m news) (h1 : ∀ u ∈ news, u.oneCell' = true) (hb : n + m ≤ 100000) (hbase : base ≤ w.heap.size)
    (h : ∀ v' w', w'.ownsRow base 48 12 v' (n + m) (xs ++ news) → w.grownBy w' v.ownBlock → (v'.ownBlock = v.ownBlock ∨ v'.ownBlock = some w.heap.size) → wpList Tryz.prog ops Q rest (a.put o.dst v') w') :
    wpList Tryz.prog ops Q (o :: rest) a w := by
  obtain ⟨i0, hi, hz0, hz1, hz2⟩ := info_parts_ins
  exact list_app hgd s x ho Tryz.underlying43 hi hz0 hz1 hz2 rfl (by decide) v n xs hsv hown m news hsrc h1 (by simp only [maxLen]; omega) (by omega) hbase h
theorem step_ins {ops : Array Oper} {o : Oper} {a : Act} {w : World} {base : Nat} {K : Act → World → Prop} {Q : Exit → Act → World → Prop} {E : Prop} (s x : Operand) (v : Value) (n : Nat) (xs : List Value) (m : Nat) (news : List Value)
    (hgd : o.guard = none) (ho : o.op = .call { callee := .builtin .append, args := #[s, x], argTypes := #[43, 43] })
    (hsv : a.eval s = v) (hown : w.ownsRow base 48 12 v n xs) (hsrc : ∃ A c, a.eval x = .slice A m c ∧ SrcAt w 12 A m news) (h1 : ∀ u ∈ news, u.oneCell' = true) (hb : n + m ≤ 100000) (hbase : base ≤ w.heap.size)
    (h : ∀ v' w', w'.ownsRow base 48 12 v' (n + m) (xs ++ news) → w.grownBy w' v.ownBlock → (v'.ownBlock = v.ownBlock ∨ v'.ownBlock = some w.heap.size) → K (a.put o.dst v') w') :
    if Region.wanted o (yielded ops a.tmps) = true then Oper.wp Tryz.prog o a w K Q else E := by
  obtain ⟨i0, hi, hz0, hz1, hz2⟩ := info_parts_ins
  exact step_app hgd s x ho Tryz.underlying43 hi hz0 hz1 hz2 rfl (by decide) v n xs hsv hown m news hsrc h1 (by simp only [maxLen]; omega) (by omega) hbase h

/-- Instructions that have been collected: a row of the call's own. -/
def InsO (w : World) (B : Nat) (S : Nat → Prop) (v : Value) (L : List Ins) : Prop :=
  ∃ LL : List (Ins × V8), L = LL.map (·.1) ∧ w.ownsRow B 48 12 v LL.length (LL.flatMap insC) ∧ ∀ y ∈ LL, InsE w S y
namespace InsO
variable {w w' : World} {B : Nat} {S S' : Nat → Prop} {v v' : Value} {L : List Ins}
theorem nil_ : InsO w B S (.slice none 0 0) [] := ⟨[], rfl, World.ownsRow_nil _ _ _ _, fun _ h => (by simp at h)⟩
theorem own (h : InsO w B S v L) : ∀ k, v.ownBlock = some k → B ≤ k ∧ k < w.heap.size := by
  obtain ⟨LL, _, h1, _⟩ := h
  exact h1.lt
theorem sl (h : InsO w B S v L) : ∃ a c, v = .slice a L.length c := by
  obtain ⟨LL, rfl, h1, _⟩ := h
  obtain ⟨a, c, e⟩ := own_at h1
  exact ⟨a, c, by rw [e, List.length_map]⟩
/-- Kept while other blocks are written. -/
theorem kept {r : Option Nat} (h : InsO w B S v L) (hg : w.grownBy w' r) (hr : v.ownBlock = none ∨ v.ownBlock ≠ r) (hS : ∀ b, S b → b < w.heap.size ∧ some b ≠ r) : InsO w' B S v L := by
  obtain ⟨LL, h0, h1, h2⟩ := h
  have hk : ∀ b o, S b → w'.cell? ⟨b, o, none⟩ = w.cell? ⟨b, o, none⟩ := fun b o hb => World.cell?_of_block (hg.block b (hS b hb).1 (hS b hb).2)
  refine ⟨LL, h0, h1.kept hg (by rcases hr with h | h; exact .inl h; exact .inr h), fun y hy => ⟨(h2 y hy).1.keep hk, (h2 y hy).2.keep hk⟩⟩
theorem widen (h : InsO w B S v L) (hS : ∀ b, S b → S' b) : InsO w B S' v L := by
  obtain ⟨LL, h0, h1, h2⟩ := h
  exact ⟨LL, h0, h1, fun y hy => ⟨(h2 y hy).1.widen hS, (h2 y hy).2.widen hS⟩⟩
theorem down {B' : Nat} (h : InsO w B S v L) (hB : B' ≤ B) : InsO w B' S v L := by
  obtain ⟨LL, h0, h1, h2⟩ := h
  exact ⟨LL, h0, own_down h1 hB, h2⟩
/-- Behind append of others. -/
theorem app {LL : List (Ins × V8)} {NN : List (Ins × V8)} (h1 : w'.ownsRow B 48 12 v' (LL.length + NN.length) (LL.flatMap insC ++ NN.flatMap insC)) (hg : w.grownBy w' v.ownBlock)
    (hS : ∀ b, S b → b < w.heap.size ∧ some b ≠ v.ownBlock) (h2 : ∀ y ∈ LL, InsE w S y) (h3 : ∀ y ∈ NN, InsE w S y) : InsO w' B S v' (LL.map (·.1) ++ NN.map (·.1)) := by
  have hk : ∀ b o, S b → w'.cell? ⟨b, o, none⟩ = w.cell? ⟨b, o, none⟩ := fun b o hb => World.cell?_of_block (hg.block b (hS b hb).1 (hS b hb).2)
  refine ⟨LL ++ NN, by simp, by simpa using h1, fun y hy => ?_⟩
  rcases List.mem_append.1 hy with hy | hy
  · exact ⟨(h2 y hy).1.keep hk, (h2 y hy).2.keep hk⟩
  · exact ⟨(h3 y hy).1.keep hk, (h3 y hy).2.keep hk⟩
/-- As a row. -/
theorem row (h : InsO w B S v L) : ∃ a cap, v = .slice a L.length cap ∧ InsRow w (fun b => S b ∨ (B ≤ b ∧ b < w.heap.size)) a L.length cap L := by
  obtain ⟨LL, rfl, h1, h2⟩ := h
  have h' := h1
  obtain ⟨_, h⟩ := h1
  rcases h with ⟨rfl, h0⟩ | ⟨g, cap, cur, rfl, hb, hg, hle, hcm, hsz, htk⟩
  · have : LL = [] := List.eq_nil_of_length_eq_zero h0
    subst this
    exact ⟨none, 0, rfl, InsRow.nil_⟩
  · refine ⟨some ⟨g, 0, none⟩, cap, by simp, rfl, fun i => (LL[i]?.map insC).getD [], ?_, fun i hi => ?_⟩
    · rw [List.length_map]
      refine ⟨hle, hcm, fun _ => ⟨g, 0, rfl, .inr ⟨hb, (Array.getElem?_eq_some_iff.1 hg).1⟩, fun i hi j hj => ?_⟩⟩
      have hfl := flat_at insC 12 insC_len LL i j hi hj
      simp only [List.getElem?_eq_getElem hi, Option.map_some, Option.getD_some]
      have hlt : j < (insC LL[i]).length := by rw [insC_len]; exact hj
      rw [List.getElem?_eq_getElem hlt] at hfl ⊢
      have := h'.cells (g := g) rfl _ _ hfl
      have hadd : (⟨g, 0, none⟩ : Addr).add (i * 12 + j) = ⟨g, 0 + (i * 12 + j), none⟩ := by
        unfold Addr.add
        split
        · rename_i h; rw [h]
        · simp
      rwa [hadd] at this
    · have hi' : i < LL.length := by simpa using hi
      simp only [List.getElem?_eq_getElem hi', Option.map_some, Option.getD_some, List.getElem_map]
      have hh := h2 LL[i] (List.getElem_mem hi')
      exact ⟨_, _, _, _, _, _, _, _, rfl, hh.1.widen fun b hb => .inl hb, hh.2.widen fun b hb => .inl hb⟩
end InsO

/-- Instructions lie where a slice leads: a source of append. -/
def InsSrc (w : World) (S : Nat → Prop) (u : Value) (N : List Ins) : Prop :=
  ∃ A c, ∃ NN : List (Ins × V8), u = .slice A NN.length c ∧ SrcAt w 12 A NN.length (NN.flatMap insC) ∧ (∀ y ∈ NN, InsE w S y) ∧ N = NN.map (·.1)
theorem InsO.src {w : World} {B : Nat} {S : Nat → Prop} {v : Value} {L : List Ins} (h : InsO w B S v L) : InsSrc w S v L := by
  obtain ⟨LL, h0, h1, h2⟩ := h
  obtain ⟨A, c, e, hs⟩ := src_own h1
  exact ⟨A, c, LL, e, hs, h2, h0⟩
theorem InsE.grown {w w' : World} {S : Nat → Prop} {y : Ins × V8} {r : Option Nat} (h : InsE w S y) (hg : w.grownBy w' r) (hS : ∀ b, S b → b < w.heap.size ∧ some b ≠ r) : InsE w' S y :=
  have hk : ∀ b o, S b → w'.cell? ⟨b, o, none⟩ = w.cell? ⟨b, o, none⟩ := fun b _ hb => World.cell?_of_block (hg.block b (hS b hb).1 (hS b hb).2)
  ⟨h.1.keep hk, h.2.keep hk⟩
theorem InsE.alloc {w : World} {S : Nat → Prop} {y : Ins × V8} (h : InsE w S y) (hS : ∀ b, S b → b < w.heap.size) (o : Obj) : InsE (w.alloc o) S y :=
  h.grown (World.grownBy_alloc w o none) fun b hb => ⟨hS b hb, by simp⟩
/-- A new block that holds one instruction. -/
theorem InsSrc.lit {w : World} {S : Nat → Prop} {y : Ins × V8} {T : TypeId} (h : InsE w S y) (hS : ∀ b, S b → b < w.heap.size) : InsSrc (w.alloc (.cells (insC y).toArray T)) S (.slice (some ⟨w.heap.size, 0, none⟩) 1 1) [y.1] :=
  ⟨some ⟨w.heap.size, 0, none⟩, 1, [y], rfl, by simpa using src_new (w := w) (T := T) (size := 12) (m := 1) (news := insC y) rfl, fun z hz => by simp at hz; subst hz; exact h.alloc hS _, rfl⟩
theorem InsO.lit {w : World} {B : Nat} {S : Nat → Prop} {y : Ins × V8} (h : InsE w S y) (hB : B ≤ w.heap.size) (hS : ∀ b, S b → b < w.heap.size) : InsO (w.alloc (.cells (insC y).toArray 48)) B S (.slice (some ⟨w.heap.size, 0, none⟩) 1 1) [y.1] :=
  ⟨[y], rfl, by simpa using World.ownsRow_lit (e := 48) (size := 12) w (insC y).toArray 1 hB (by decide) rfl, fun z hz => by simp at hz; subst hz; exact h.alloc hS _⟩

/-- append of instructions onto what has been collected. -/
theorem list_insO {ops : Array Oper} {rest : List Oper} {o : Oper} {a : Act} {w : World} {base : Nat} {S : Nat → Prop} {Q : Exit → Act → World → Prop} (s x : Operand) (v : Value) (L N : List Ins)
    (hgd : o.guard = none) (ho : o.op = .call { callee := .builtin .append, args := #[s, x], argTypes := #[43, 43] })
    (hsv : a.eval s = v) (hown : InsO w base S v L) (hsrc : InsSrc w S (a.eval x) N) (hb : L.length + N.length ≤ 100000) (hbase : base ≤ w.heap.size) (hS : ∀ b, S b → b < base)
    (h : ∀ A c w', InsO w' base S (.slice A (L.length + N.length) c) (L ++ N) → w.grownBy w' v.ownBlock → ((Value.slice A (L.length + N.length) c).ownBlock = v.ownBlock ∨ (Value.slice A (L.length + N.length) c).ownBlock = some w.heap.size) → wpList Tryz.prog ops Q rest (a.put o.dst (.slice A (L.length + N.length) c)) w') :
    wpList Tryz.prog ops Q (o :: rest) a w := by
  obtain ⟨LL, rfl, h1, h2⟩ := hown
  obtain ⟨A, c, NN, hx, hs, h3, rfl⟩ := hsrc
  rw [List.length_map, List.length_map] at hb h
  refine list_ins s x v LL.length (LL.flatMap insC) NN.length (NN.flatMap insC) hgd ho hsv h1 ⟨A, c, hx, hs⟩ (insC_one h3) hb hbase fun v' w' g1 g2 g3 => ?_
  obtain ⟨A', c', rfl⟩ := own_at g1
  refine h A' c' w' (InsO.app g1 g2 (fun b hb => ⟨Nat.lt_of_lt_of_le (hS b hb) hbase, fun e => ?_⟩) h2 h3) g2 g3
  have := (h1.lt b e.symm).1
  have := hS b hb
  omega
theorem step_insO {ops : Array Oper} {o : Oper} {a : Act} {w : World} {base : Nat} {S : Nat → Prop} {K : Act → World → Prop} {Q : Exit → Act → World → Prop} {E : Prop} (s x : Operand) (v : Value) (L N : List Ins)
    (hgd : o.guard = none) (ho : o.op = .call { callee := .builtin .append, args := #[s, x], argTypes := #[43, 43] })
    (hsv : a.eval s = v) (hown : InsO w base S v L) (hsrc : InsSrc w S (a.eval x) N) (hb : L.length + N.length ≤ 100000) (hbase : base ≤ w.heap.size) (hS : ∀ b, S b → b < base)
    (h : ∀ A c w', InsO w' base S (.slice A (L.length + N.length) c) (L ++ N) → w.grownBy w' v.ownBlock → ((Value.slice A (L.length + N.length) c).ownBlock = v.ownBlock ∨ (Value.slice A (L.length + N.length) c).ownBlock = some w.heap.size) → K (a.put o.dst (.slice A (L.length + N.length) c)) w') :
    if Region.wanted o (yielded ops a.tmps) = true then Oper.wp Tryz.prog o a w K Q else E := by
  obtain ⟨LL, rfl, h1, h2⟩ := hown
  obtain ⟨A, c, NN, hx, hs, h3, rfl⟩ := hsrc
  rw [List.length_map, List.length_map] at hb h
  refine step_ins s x v LL.length (LL.flatMap insC) NN.length (NN.flatMap insC) hgd ho hsv h1 ⟨A, c, hx, hs⟩ (insC_one h3) hb hbase fun v' w' g1 g2 g3 => ?_
  obtain ⟨A', c', rfl⟩ := own_at g1
  refine h A' c' w' (InsO.app g1 g2 (fun b hb => ⟨Nat.lt_of_lt_of_le (hS b hb) hbase, fun e => ?_⟩) h2 h3) g2 g3
  have := (h1.lt b e.symm).1
  have := hS b hb
  omega
end Go.Proofs.YtcgpobeidlimkaaGreatDoor
