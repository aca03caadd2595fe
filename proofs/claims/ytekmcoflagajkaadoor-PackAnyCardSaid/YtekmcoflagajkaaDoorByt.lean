/- Rows of bytes that a call makes. -/
import Derived.Test.YtekmcoflagajkaaDoorRows
import Derived.Test.YtekmcoflagajkaaDoorApp
namespace Go.Proofs.YtekmcoflagajkaaDoor
open Go.RowKit

theorem u8_info : (Tryd.prog.info? 5).map (fun i => (i.zero, i.size, i.bytes)) = some (some (.int .u8 0), 1, 1) := by kernel_rfl

/-- append of bytes onto a row of the call's own. -/
theorem list_by {ops : Array Oper} {rest : List Oper} {o : Oper} {a : Act} {w : World} {base : Nat} {Q : Exit → Act → World → Prop} (s x : Operand) (v : Value) (n : Nat) (xs : List Value) (m : Nat) (news : List Value)
    (hgd : o.guard = none) (ho : o.op = .call { callee := .builtin .append, args := #[s, x], argTypes := #[65, 65] })
    (hsv : a.eval s = v) (hown : w.ownsRow base 5 1 v n xs) (hsrc : ∃ A c, a.eval x = .slice A m c ∧ SrcAt w 1 A m news) (h1 : ∀ u ∈ news, u.oneCell' = true) (hb : n + m ≤ 100000000) (hbase : base ≤ w.heap.size)
    (h : ∀ v' w', w'.ownsRow base 5 1 v' (n + m) (xs ++ news) → w.grownBy w' v.ownBlock → (v'.ownBlock = v.ownBlock ∨ v'.ownBlock = some w.heap.size) → wpList Tryd.prog ops Q rest (a.put o.dst v') w') :
    wpList Tryd.prog ops Q (o :: rest) a w := by
  obtain ⟨i0, hi, hz0, hz1, hz2⟩ := info_parts u8_info
  exact list_app hgd s x ho Tryd.underlying65 hi hz0 hz1 hz2 rfl (by decide) v n xs hsv hown m news hsrc h1 (by simp only [maxLen]; omega) (by omega) hbase h
theorem step_by {ops : Array Oper} {o : Oper} {a : Act} {w : World} {base : Nat} {K : Act → World → Prop} {Q : Exit → Act → World → Prop} {E : Prop} (s x : Operand) (v : Value) (n : Nat) (xs : List Value) (m : Nat) (news : List Value)
    (hgd : o.guard = none) (ho : o.op = .call { callee := .builtin .append, args := #[s, x], argTypes := #[65, 65] })
    (hsv : a.eval s = v) (hown : w.ownsRow base 5 1 v n xs) (hsrc : ∃ A c, a.eval x = .slice A m c ∧ SrcAt w 1 A m news) (h1 : ∀ u ∈ news, u.oneCell' = true) (hb : n + m ≤ 100000000) (hbase : base ≤ w.heap.size)
    (h : ∀ v' w', w'.ownsRow base 5 1 v' (n + m) (xs ++ news) → w.grownBy w' v.ownBlock → (v'.ownBlock = v.ownBlock ∨ v'.ownBlock = some w.heap.size) → K (a.put o.dst v') w') :
    if Region.wanted o (yielded ops a.tmps) = true then Oper.wp Tryd.prog o a w K Q else E := by
  obtain ⟨i0, hi, hz0, hz1, hz2⟩ := info_parts u8_info
  exact step_app hgd s x ho Tryd.underlying65 hi hz0 hz1 hz2 rfl (by decide) v n xs hsv hown m news hsrc h1 (by simp only [maxLen]; omega) (by omega) hbase h
theorem one_by {p : Int} : ∀ u ∈ [Value.int .u8 p], u.oneCell' = true := by
  intro u hu
  simp at hu
  subst hu
  rfl
theorem two_by {p q : Int} : ∀ u ∈ [Value.int .u8 p, Value.int .u8 q], u.oneCell' = true := by
  intro u hu
  simp at hu
  rcases hu with rfl | rfl <;> rfl

/-- string(row): a row of bytes that holds something. -/
theorem conv_row {w : World} {base : Nat} {v : Value} {l : List Int} (h : w.ownsRow base 5 1 v l.length (l.map (Value.int .u8))) (hl : 0 < l.length) :
    (convert 65 9 v).run Tryd.prog w = .ok (.string (strOfNums l)) w := by
  have h' := h
  obtain ⟨_, h⟩ := h
  rcases h with ⟨rfl, h0⟩ | ⟨g, cap, cur, rfl, hb, hg, hle, hcm, hsz, htk⟩
  · omega
  · refine run_convert_bytes_arg (P := Tryd.prog) w 65 5 Tryd.underlying65 Tryd.underlying5 g 0 l.length cap l rfl (fun i hi => ?_) 9 Tryd.underlying9
    have := h'.cells (g := g) rfl i (.int .u8 l[i]) (by simp [hi])
    rw [Addr.add_lit] at this
    rw [this]
    simp [hi]
end Go.Proofs.YtekmcoflagajkaaDoor
