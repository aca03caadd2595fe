/- Formulas that a call collects: one more, a zero first, its cells then. -/
import Derived.Test.YtogopcejapklgaaGreatDoorPrB
namespace Go.Proofs.YtogopcejapklgaaGreatDoor
open Go.RowKit

def zero6 : List Value := [.int .i64 0, .int .i64 0, .int .i64 0, .int .i64 0, .int .i64 0, .slice none 0 0]
/-- A formula's six cells are written. -/
def put6 (w : World) (g off : Nat) (l : List Value) : World := (List.range 6).foldl (fun w j => w.setCell ⟨g, off + j, none⟩ (l[j]?.getD undef)) w
theorem put6_eq (w : World) (g off : Nat) (c0 c1 c2 c3 c4 c5 : Value) : put6 w g off [c0, c1, c2, c3, c4, c5] =
    (((((w.setCell ⟨g, off, none⟩ c0).setCell ⟨g, off + 1, none⟩ c1).setCell ⟨g, off + 2, none⟩ c2).setCell ⟨g, off + 3, none⟩ c3).setCell ⟨g, off + 4, none⟩ c4).setCell ⟨g, off + 5, none⟩ c5 := rfl
theorem set_end (A : List Value) (z c : List Value) (hz : z.length = 6) (hc : c.length = 6) (off : Nat) (ho : A.length = off) : (List.range 6).foldl (fun (xs : List Value) j => xs.set (off + j) (c[j]?.getD undef)) (A ++ z) = A ++ c := by
  subst ho
  have key : ∀ (k : Nat) (z : List Value), z.length = 6 → k ≤ 6 → (List.range k).foldl (fun (xs : List Value) j => xs.set (A.length + j) (c[j]?.getD undef)) (A ++ z) = A ++ (c.take k ++ z.drop k) := by
    intro k
    induction k with
    | zero => intro z _ _; simp
    | succ k ih =>
      intro z hz hk
      rw [List.range_succ, List.foldl_append, ih z hz (by omega)]
      simp only [List.foldl_cons, List.foldl_nil]
      rw [List.set_append_right _ _ (by omega)]
      congr 1
      have hkc : k < c.length := by omega
      have hkz : k < z.length := by omega
      rw [show A.length + k - A.length = (c.take k).length + 0 by rw [List.length_take]; omega, List.set_append_right _ _ (by omega)]
      rw [List.take_succ_eq_append_getElem hkc, List.append_assoc]
      simp [List.getElem?_eq_getElem hkc]
      rw [List.drop_eq_getElem_cons hkz]
      rfl
  have := key 6 z hz (Nat.le_refl _)
  rw [this, List.take_of_length_le (by omega), List.drop_of_length_le (by omega), List.append_nil]
theorem ownsRow_put6 {w : World} {B n : Nat} {t : TypeId} {g cap : Nat} {xs : List Value} (h : w.ownsRow B t 6 (.slice (some ⟨g, 0, none⟩) n cap) n xs) (off : Nat) (l : List Value) :
    (put6 w g off l).ownsRow B t 6 (.slice (some ⟨g, 0, none⟩) n cap) n ((List.range 6).foldl (fun (xs : List Value) j => xs.set (off + j) (l[j]?.getD undef)) xs) ∧ w.grownBy (put6 w g off l) (some g) := by
  have key : ∀ (js : List Nat) (w : World) (xs : List Value), w.ownsRow B t 6 (.slice (some ⟨g, 0, none⟩) n cap) n xs →
      (js.foldl (fun w j => w.setCell ⟨g, off + j, none⟩ (l[j]?.getD undef)) w).ownsRow B t 6 (.slice (some ⟨g, 0, none⟩) n cap) n (js.foldl (fun (xs : List Value) j => xs.set (off + j) (l[j]?.getD undef)) xs) ∧
      w.grownBy (js.foldl (fun w j => w.setCell ⟨g, off + j, none⟩ (l[j]?.getD undef)) w) (some g) := by
    intro js
    induction js with
    | nil => intro w xs h; exact ⟨h, ⟨rfl, rfl, rfl, Nat.le_refl _, fun _ _ _ => rfl⟩⟩
    | cons j js ih =>
      intro w xs h
      have h1 := h.stored (off + j) (l[j]?.getD undef)
      have h2 := ih _ _ h1.1
      exact ⟨h2.1, ⟨h2.2.os.trans h1.2.os, h2.2.tape.trans h1.2.tape, h2.2.output.trans h1.2.output, Nat.le_trans h1.2.size h2.2.size, fun i hi hne => (h2.2.block i (Nat.lt_of_lt_of_le hi h1.2.size) hne).trans (h1.2.block i hi hne)⟩⟩
  exact key (List.range 6) w xs h

/-- The blocks of what has been collected, but the row's own. -/
def Ks (base : Nat) (w : World) (v : Value) (b : Nat) : Prop := base ≤ b ∧ b < w.heap.size ∧ some b ≠ v.ownBlock
/-- Formulas that have been collected since base. -/
def Kds (w : World) (base : Nat) (v : Value) (l : List Fm) : Prop := FmO w base (Ks base w v) v l
theorem Kds.nil {w : World} {base : Nat} : Kds w base (.slice none 0 0) [] := FmO.nil_
theorem Kds.sl {w : World} {base : Nat} {v : Value} {l : List Fm} (h : Kds w base v l) : ∃ a c, v = .slice a l.length c := FmO.sl h
theorem Kds.own {w : World} {base : Nat} {v : Value} {l : List Fm} (h : Kds w base v l) : ∀ k, v.ownBlock = some k → base ≤ k ∧ k < w.heap.size := FmO.own h
/-- Kept while blocks below base, or new ones, are written. -/
theorem Kds.grown {w w' : World} {base : Nat} {v : Value} {l : List Fm} {r : Option Nat} (h : Kds w base v l) (hg : w.grownBy w' r) (hr : ∀ k, r = some k → k < base) : Kds w' base v l := by
  refine (FmO.kept h hg ?_ fun b hb => ⟨hb.2.1, fun e => by have := hr b e.symm; have := hb.1; omega⟩).widen fun b hb => ⟨hb.1, Nat.lt_of_lt_of_le hb.2.1 hg.size, hb.2.2⟩
  rcases hv : v.ownBlock with _ | k
  · exact .inl rfl
  · right
    intro e
    have := (h.own k hv).1
    have := hr k e.symm
    omega
/-- As a row. -/
theorem Kds.row {w : World} {base : Nat} {a : Option Addr} {n cap : Nat} {l : List Fm} (h : Kds w base (.slice a n cap) l) : n = l.length ∧ FmRow w (fun b => base ≤ b ∧ b < w.heap.size) a l.length cap l := by
  obtain ⟨a', c', e, hr⟩ := FmO.row h
  injection e with e1 e2 e3
  subst e1 e2 e3
  exact ⟨rfl, hr.widen fun b hb => hb.elim (fun h => ⟨h.1, h.2.1⟩) id⟩

/-- What an append of a zero has left. -/
structure App6 (W W' : World) (base : Nat) (v v' : Value) (n : Nat) (xs : List Value) : Prop where
  own : W'.ownsRow base 30 6 v' (n + 1) (xs ++ zero6)
  gr : W.grownBy W' v.ownBlock
  at_ : v'.ownBlock = v.ownBlock ∨ v'.ownBlock = some W.heap.size
theorem zero6_one : ∀ u ∈ zero6, u.oneCell' = true := by simp [zero6, Value.oneCell']
/-- append of a zero, as a step of a region. -/
theorem step_zero {ops : Array Oper} {o : Oper} {a : Act} {W : World} {base : Nat} {K : Act → World → Prop} {Q : Exit → Act → World → Prop} {E : Prop} (s x : Operand) (v : Value) (n : Nat) (xs : List Value)
    (hgd : o.guard = none) (ho : o.op = .call { callee := .builtin .append, args := #[s, x], argTypes := #[28, 28] })
    (hsv : a.eval s = v) (hown : W.ownsRow base 30 6 v n xs) (hsrc : ∃ A c, a.eval x = .slice A 1 c ∧ SrcAt W 6 A 1 zero6) (hb : n + 1 ≤ 100000) (hbase : base ≤ W.heap.size)
    (h : ∀ v' w', App6 W w' base v v' n xs → K (a.put o.dst v') w') :
    if Region.wanted o (yielded ops a.tmps) = true then Oper.wp Tryz.prog o a W K Q else E := by
  obtain ⟨i0, hi, hz0, hz1, hz2⟩ := info_parts_fm
  exact step_app hgd s x ho Tryz.underlying28 hi hz0 hz1 hz2 rfl (by decide) v n xs hsv hown 1 zero6 hsrc zero6_one (by simp only [maxLen]; omega) (by omega) hbase fun v' w' h1 h2 h3 => h v' w' ⟨h1, h2, h3⟩
/-- The row behind it. -/
theorem App6.form {W W' : World} {base n : Nat} {v v' : Value} {xs : List Value} (h : App6 W W' base v v' n xs) (hn : xs.length = n * 6) : ∃ g cap, v' = .slice (some ⟨g, 0, none⟩) (n + 1) cap ∧ base ≤ g ∧ g < W'.heap.size ∧ n + 1 ≤ cap ∧ cap ≤ maxLen ∧
    (∀ j, j < 6 → ∃ u, W'.cell? ⟨g, n * 6 + j, none⟩ = some u) ∧ (∀ j, W'.frozen? ⟨g, j, none⟩ = false) := by
  have h1 := h.own
  have h1' := h1
  obtain ⟨hxl, hh⟩ := h1'
  rcases hh with ⟨e, h0⟩ | ⟨g, cap, cur, e, hb, hg, hle, hcm, hsz, htk⟩
  · omega
  · subst e
    refine ⟨g, cap, rfl, hb, (Array.getElem?_eq_some_iff.1 hg).1, hle, hcm, fun j hj => ?_, fun j => h1.frozenAt j⟩
    have hc := h1.cellAt (n * 6 + j) (by omega)
    rw [hc, List.getElem?_eq_getElem (by rw [hxl]; omega)]
    exact ⟨_, rfl⟩
/-- The row of what has been collected. -/
theorem Kds.open_ {w : World} {base : Nat} {v : Value} {l : List Fm} (h : Kds w base v l) : ∃ LL : List (Fm × (Nat → Value)), l = LL.map (·.1) ∧ w.ownsRow base 30 6 v l.length (LL.flatMap fxC) ∧ (LL.flatMap fxC).length = l.length * 6 ∧ ∀ y ∈ LL, FmIn w (Ks base w v) (fxC y) y.1 := by
  obtain ⟨LL, h0, h1, h2⟩ := h
  have hl : l.length = LL.length := by rw [h0]; simp
  exact ⟨LL, h0, by rw [hl]; exact h1, by rw [flat_size fxC 6 fxC_len, hl], h2⟩
/-- One more has been collected: its cells are written. -/
theorem Kds.next {W W' W2 : World} {base n g cap : Nat} {v : Value} {LL : List (Fm × (Nat → Value))} {f : Fm} {cs : List Value} (h : App6 W W' base v (.slice (some ⟨g, 0, none⟩) (n + 1) cap) n (LL.flatMap fxC)) (hn : LL.length = n)
    (hL : ∀ y ∈ LL, FmIn W (Ks base W v) (fxC y) y.1) (hf : FmIn W (Ks base W v) cs f) (hs : W2.heap.size = W'.heap.size) (hg : W2.heap[g]? = (put6 W' g (n * 6) cs).heap[g]?) (hb : ∀ b, base ≤ b → b ≠ g → W2.heap[b]? = W'.heap[b]?) :
    Kds W2 base (.slice (some ⟨g, 0, none⟩) (n + 1) cap) (LL.map (·.1) ++ [f]) := by
  obtain ⟨h1, h2, h3⟩ := h
  have hcl := hf.ones.1
  have hp := ownsRow_put6 h1 (n * 6) cs
  rw [set_end (LL.flatMap fxC) zero6 cs rfl hcl (n * 6) (by rw [flat_size fxC 6 fxC_len, hn])] at hp
  have hgl := (h1.lt g rfl)
  have hown : W2.ownsRow base 30 6 (.slice (some ⟨g, 0, none⟩) (n + 1) cap) (n + 1) (LL.flatMap fxC ++ cs) := by
    obtain ⟨p1, p2⟩ := hp.1
    refine ⟨p1, ?_⟩
    rcases p2 with ⟨e, h0⟩ | ⟨g', cap', cur, e, q1, q2, q3⟩
    · omega
    · right
      have eg : g = g' := by simp only [Value.slice.injEq, Option.some.injEq, Addr.mk.injEq, and_true] at e; exact e.1
      exact ⟨g', cap', cur, e, q1, by rw [← eg] at q2 ⊢; rw [hg]; exact q2, q3⟩
  have key : ∀ {ds : List Value} {x : Fm}, FmIn W (Ks base W v) ds x → FmIn W2 (Ks base W2 (.slice (some ⟨g, 0, none⟩) (n + 1) cap)) ds x := fun hx => by
    have hne : ∀ b, Ks base W v b → b ≠ g := fun b hb e => by
      rcases h3 with h3 | h3
      · exact hb.2.2 (by rw [← h3, e]; rfl)
      · have : g = W.heap.size := Option.some.inj h3
        have := hb.2.1
        omega
    refine (hx.keep fun b o hbb => ?_).widen fun b hbb => ⟨hbb.1, ?_, fun e => hne b hbb (Option.some.inj e)⟩
    · have h5 : W2.heap[b]? = W.heap[b]? := (hb b hbb.1 (hne b hbb)).trans (h2.block b hbb.2.1 hbb.2.2)
      exact World.cell?_of_block (w := W) (a := ⟨b, o, none⟩) h5
    · have := hbb.2.1
      have := h2.size
      omega
  refine ⟨LL ++ [(f, fun i => cs[i]?.getD default)], by simp, ?_, fun y hy => ?_⟩
  · rw [List.length_append, List.flatMap_append, hn]
    have : [(f, fun i => cs[i]?.getD default)].flatMap fxC = cs := by simp [fxC_of hcl]
    rw [this]
    exact hown
  · rcases List.mem_append.1 hy with hy | hy
    · exact key (hL y hy)
    · simp only [List.mem_singleton] at hy
      subst hy
      rw [fxC_of hcl]
      exact key hf
end Go.Proofs.YtogopcejapklgaaGreatDoor
