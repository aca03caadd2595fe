/- Rows of numbers: appended to, sorted, compacted. -/
import Derived.Test.YtjjdmhbljagokaaBufD
import Derived.Test.YtjjdmhbljagokaaShelf
import Derived.Sort.OwnSortedInts
namespace Go.Proofs.Ytjjdmhbljagokaa
open Go.RowKit Go.Sort

theorem int_info : (Try.prog.info? 3).map (fun i => (i.zero, i.size, i.bytes)) = some (some (.int .i64 0), 1, 8) := by kernel_rfl

/-- append of numbers onto a row of the call's own. -/
theorem list_int {ops : Array Oper} {rest : List Oper} {o : Oper} {a : Act} {w : World} {base : Nat} {Q : Exit → Act → World → Prop} (s x : Operand) (v : Value) (n : Nat) (xs : List Value) (m : Nat) (news : List Value)
    (hgd : o.guard = none) (ho : o.op = .call { callee := .builtin .append, args := #[s, x], argTypes := #[42, 42] })
    (hsv : a.eval s = v) (hown : w.ownsRow base 3 1 v n xs) (hsrc : ∃ A c, a.eval x = .slice A m c ∧ SrcAt w 1 A m news) (h1 : ∀ u ∈ news, u.oneCell' = true) (hb : n + m ≤ 1000000) (hbase : base ≤ w.heap.size)
    (h : ∀ v' w', w'.ownsRow base 3 1 v' (n + m) (xs ++ news) → w.grownBy w' v.ownBlock → (v'.ownBlock = v.ownBlock ∨ v'.ownBlock = some w.heap.size) → wpList Try.prog ops Q rest (a.put o.dst v') w') :
    wpList Try.prog ops Q (o :: rest) a w := by
  obtain ⟨i0, hi, hz0, hz1, hz2⟩ := info_parts int_info
  exact list_app hgd s x ho Try.underlying42 hi hz0 hz1 hz2 rfl (by decide) v n xs hsv hown m news hsrc h1 (by simp only [maxLen]; omega) (by omega) hbase h
theorem one_int {p : Int} : ∀ u ∈ [Value.int .i64 p], u.oneCell' = true := by
  intro u hu
  simp at hu
  subst hu
  rfl

/-- A row of numbers. -/
structure RowAt (w : World) (g cap : Nat) (l : List Int) : Prop where
  lt : g < w.heap.size
  le : l.length ≤ cap
  mx : cap ≤ maxLen
  holds : Holds (Value.int .i64) w g 0 l.toArray
theorem RowAt.ints {w : World} {g cap : Nat} {l : List Int} (h : RowAt w g cap l) : IntIn w (fun b => b = g) (some ⟨g, 0, none⟩) l.length cap l :=
  ⟨rfl, h.le, h.mx, fun _ => ⟨g, 0, rfl, rfl, fun i hi j hj => by
    obtain rfl : j = 0 := by omega
    have := (h.holds i (by simpa using hi)).1
    simpa [hi] using this⟩⟩
theorem IntIn.of_own {w : World} {base : Nat} {T : TypeId} {v : Value} {l : List Int} (h : w.ownsRow base T 1 v l.length (l.map (Value.int .i64))) :
    ∃ a cap, v = .slice a l.length cap ∧ IntIn w (fun b => base ≤ b ∧ b < w.heap.size) a l.length cap l ∧ (l = [] ∨ ∃ g, a = some ⟨g, 0, none⟩ ∧ base ≤ g ∧ RowAt w g cap l) := by
  have h' := h
  obtain ⟨_, h⟩ := h
  rcases h with ⟨rfl, h0⟩ | ⟨g, cap, cur, rfl, hb, hg, hle, hcm, hsz, htk⟩
  · obtain rfl := List.eq_nil_of_length_eq_zero h0
    exact ⟨none, 0, rfl, IntIn.nil_, .inl rfl⟩
  · have hlt := (Array.getElem?_eq_some_iff.1 hg).1
    rw [Nat.mul_one] at htk
    have hr : RowAt w g cap l := ⟨hlt, hle, hcm, holds_of_blockI hg htk⟩
    exact ⟨some ⟨g, 0, none⟩, cap, rfl, hr.ints.widen (fun b e => by subst e; exact ⟨hb, hlt⟩), .inr ⟨g, rfl, hb, hr⟩⟩

theorem sort_any (g cap : Nat) (l : List Int) (w : World) (h : RowAt w g cap l) (hlen : l.length ≤ 1000) :
    Calls Try.prog 26 #[.slice (some ⟨g, 0, none⟩) l.length cap] w fun e w' => e = .returned (.tuple #[]) ∧ RowAt w' g cap (l.mergeSort fun x y => decide (x ≤ y)) ∧ Below g w w' := by
  refine (slices_Sort_int g 0 cap l w h.holds h.lt (by omega)).mono ?_
  rintro e w' ⟨rfl, n, os, rfl⟩
  have hB : Below g w (grow (putRow (Value.int .i64) (Sort.ahead w n) g 0 (l.mergeSort fun x y => decide (x ≤ y)).toArray) os) :=
    (Below.refl g w).grown (grownBy_sortedI _) (Nat.le_of_lt h.lt) (fun k hk => by cases hk; exact Nat.le_refl _)
  refine ⟨rfl, ⟨Nat.lt_of_lt_of_le h.lt hB.size, by rw [List.length_mergeSort]; exact h.le, h.mx, ?_⟩, hB⟩
  refine holds_grow _ _ _ _ _ _ (by simpa using h.lt) ?_
  exact holds_putRow _ (Sort.ahead w n) g 0 l.toArray _ h.holds (by simp)

theorem compact_any (g cap : Nat) (l : List Int) (w : World) (h : RowAt w g cap l) (hlen : l.length ≤ 1000) :
    Calls Try.prog 27 #[.slice (some ⟨g, 0, none⟩) l.length cap] w fun e w' => e = .returned (.slice (some ⟨g, 0, none⟩) (Lib.compact l).length cap) ∧ RowAt w' g cap (Lib.compact l) ∧ Below g w w' := by
  have hcl : (Lib.compact l).length ≤ l.length := by
    unfold Lib.compact Lib.compactUpTo
    rw [List.length_map]
    exact Nat.le_trans (List.length_filter_le _ _) (by simp)
  refine (slices_Compact_int g 0 cap l w h.holds (by omega) h.le).mono ?_
  rintro e w' ⟨rfl, n, rfl⟩
  have hg := grownBy_sortedI (w := w) (g := g) (n := n) (os := #[]) (Lib.compact l ++ List.replicate (l.length - (Lib.compact l).length) 0).toArray
  rw [show ∀ W : World, grow W #[] = W from fun W => by simp [grow]] at hg
  have hB := (Below.refl g w).grown hg (Nat.le_of_lt h.lt) (fun k hk => by cases hk; exact Nat.le_refl _)
  refine ⟨rfl, ⟨Nat.lt_of_lt_of_le h.lt hB.size, Nat.le_trans hcl h.le, h.mx, ?_⟩, hB⟩
  have hh := holds_putRow (Value.int .i64) (Sort.ahead w n) g 0 l.toArray (Lib.compact l ++ List.replicate (l.length - (Lib.compact l).length) 0).toArray h.holds (by simp; omega)
  intro j hj
  have hj' : j < (Lib.compact l).length := by simpa using hj
  have := hh j (by simp; omega)
  rw [show (Lib.compact l).toArray[j]! = (Lib.compact l ++ List.replicate (l.length - (Lib.compact l).length) 0).toArray[j]! by
    rw [getElem!_pos _ j (by simpa using hj'), getElem!_pos _ j (by simp; omega)]
    simp [hj']]
  exact this
end Go.Proofs.Ytjjdmhbljagokaa
