/- append onto a row of the call's own, whatever the source: as a step of a region, and in a plain list of operations. -/
import Derived.Test.YtcgpobeidlimkaaGreatDoorMem
import Derived.Maps.AppendAt
import Derived.Deep.RegionLawGrows
import Derived.Deep.RegionHeld3
namespace Go.Proofs.YtcgpobeidlimkaaGreatDoor
open Go.RowKit

/-- The cells 'news', m elements, lie where the slice (A, m) leads. -/
def SrcAt (w : World) (size : Nat) (A : Option Addr) (m : Nat) (news : List Value) : Prop :=
  news.length = m * size ∧ (A = none → m = 0) ∧ ∀ ad, A = some ad → ∀ j u, news[j]? = some u → w.cell? (ad.add j) = some u

section
variable {P : Program} {w : World} {base : Nat} {t e : TypeId} {i : TypeInfo} {z : Value} {size bytes : Nat}

theorem run_app (ty : TypeId) (ht : P.underlying t = some (.slice e)) (hi : P.info? e = some i) (hz : i.zero = some z) (hsize : i.size = size) (hby : i.bytes = bytes) (hzs : z.cells.size = size) (hsz : 0 < size)
    {v : Value} {n : Nat} {xs : List Value} (hown : w.ownsRow base e size v n xs) {A : Option Addr} {m c : Nat} {news : List Value} (hs : SrcAt w size A m news) (h1 : ∀ u ∈ news, u.oneCell' = true)
    (h63 : n + m ≤ maxLen) (hbytes : (n + m) * bytes ≤ 140737488355328) (hbase : base ≤ w.heap.size) :
    ∃ v' w', (Builtin.append_ #[t, t] ty #[v, .slice A m c]).run P w = .ok v' w' ∧ w'.ownsRow base e size v' (n + m) (xs ++ news) ∧ w.grownBy w' v.ownBlock ∧ (v'.ownBlock = v.ownBlock ∨ v'.ownBlock = some w.heap.size) := by
  obtain ⟨hl, hA, hc⟩ := hs
  cases A with
  | none =>
    obtain rfl := hA rfl
    obtain rfl : news = [] := List.eq_nil_of_length_eq_zero (by simpa using hl)
    refine ⟨v, w, ?_, by simpa using hown, ⟨rfl, rfl, rfl, Nat.le_refl _, fun _ _ _ => rfl⟩, .inl rfl⟩
    rcases hown.2 with ⟨rfl, rfl⟩ | ⟨g, cap, cur, rfl, _, _, hnc, _⟩
    · simp [Builtin.append_, run_underlying ht, sizeOf, typeInfo, hi, Builtin.lenOf, Builtin.firstCells]
    · simp [Builtin.append_, run_underlying ht, sizeOf, typeInfo, hi, Builtin.lenOf, Builtin.firstCells, hnc, storeCells]
  | some ad =>
    obtain ⟨v', w', hrun, h2, h3, _, h5⟩ := run_append_own_at (P := P) w base t ty e i z size bytes ht hi hz hsize hby hzs hsz v n xs hown ad m c news hl (hc ad rfl) h1 h63 hbytes hbase
    exact ⟨v', w', hrun, h2, h3, h5⟩

theorem wp_app {o : Oper} {a : Act} {K : Act → World → Prop} {Q : Exit → Act → World → Prop} (s x : Operand) (ho : o.op = .call { callee := .builtin .append, args := #[s, x], argTypes := #[t, t] })
    (ht : P.underlying t = some (.slice e)) (hi : P.info? e = some i) (hz : i.zero = some z) (hsize : i.size = size) (hby : i.bytes = bytes) (hzs : z.cells.size = size) (hsz : 0 < size)
    (v : Value) (n : Nat) (xs : List Value) (hsv : a.eval s = v) (hown : w.ownsRow base e size v n xs) (m : Nat) (news : List Value) (hsrc : ∃ A c, a.eval x = .slice A m c ∧ SrcAt w size A m news) (h1 : ∀ u ∈ news, u.oneCell' = true)
    (h63 : n + m ≤ maxLen) (hbytes : (n + m) * bytes ≤ 140737488355328) (hbase : base ≤ w.heap.size)
    (h : ∀ v' w', w'.ownsRow base e size v' (n + m) (xs ++ news) → w.grownBy w' v.ownBlock → (v'.ownBlock = v.ownBlock ∨ v'.ownBlock = some w.heap.size) → K (a.put o.dst v') w') : o.wp P a w K Q := by
  obtain ⟨A, c, hx, hs⟩ := hsrc
  obtain ⟨v', w', hrun, h2, h3, h4⟩ := run_app (P := P) o.type ht hi hz hsize hby hzs hsz hown (c := c) hs h1 h63 hbytes hbase
  unfold Oper.wp execOp
  simp only [ho, resolve, invoke, builtin, Sem.run_bind, Sem.run_pure, Result.andThen_ok, List.map_toArray, List.map_cons, List.map_nil, hsv, hx, hrun]
  exact h v' w' h2 h3 h4

/-- As a step of a region. -/
theorem step_app {ops : Array Oper} {o : Oper} {a : Act} {K : Act → World → Prop} {Q : Exit → Act → World → Prop} {E : Prop} (hgd : o.guard = none) (s x : Operand) (ho : o.op = .call { callee := .builtin .append, args := #[s, x], argTypes := #[t, t] })
    (ht : P.underlying t = some (.slice e)) (hi : P.info? e = some i) (hz : i.zero = some z) (hsize : i.size = size) (hby : i.bytes = bytes) (hzs : z.cells.size = size) (hsz : 0 < size)
    (v : Value) (n : Nat) (xs : List Value) (hsv : a.eval s = v) (hown : w.ownsRow base e size v n xs) (m : Nat) (news : List Value) (hsrc : ∃ A c, a.eval x = .slice A m c ∧ SrcAt w size A m news) (h1 : ∀ u ∈ news, u.oneCell' = true)
    (h63 : n + m ≤ maxLen) (hbytes : (n + m) * bytes ≤ 140737488355328) (hbase : base ≤ w.heap.size)
    (h : ∀ v' w', w'.ownsRow base e size v' (n + m) (xs ++ news) → w.grownBy w' v.ownBlock → (v'.ownBlock = v.ownBlock ∨ v'.ownBlock = some w.heap.size) → K (a.put o.dst v') w') :
    if Region.wanted o (yielded ops a.tmps) = true then Oper.wp P o a w K Q else E := by
  have hw : Region.wanted o (yielded ops a.tmps) = true := by simp [Region.wanted, hgd]
  rw [if_pos hw]
  exact wp_app s x ho ht hi hz hsize hby hzs hsz v n xs hsv hown m news hsrc h1 h63 hbytes hbase h

/-- In a plain list of operations. -/
theorem list_app {ops : Array Oper} {rest : List Oper} {o : Oper} {a : Act} {Q : Exit → Act → World → Prop} (hgd : o.guard = none) (s x : Operand) (ho : o.op = .call { callee := .builtin .append, args := #[s, x], argTypes := #[t, t] })
    (ht : P.underlying t = some (.slice e)) (hi : P.info? e = some i) (hz : i.zero = some z) (hsize : i.size = size) (hby : i.bytes = bytes) (hzs : z.cells.size = size) (hsz : 0 < size)
    (v : Value) (n : Nat) (xs : List Value) (hsv : a.eval s = v) (hown : w.ownsRow base e size v n xs) (m : Nat) (news : List Value) (hsrc : ∃ A c, a.eval x = .slice A m c ∧ SrcAt w size A m news) (h1 : ∀ u ∈ news, u.oneCell' = true)
    (h63 : n + m ≤ maxLen) (hbytes : (n + m) * bytes ≤ 140737488355328) (hbase : base ≤ w.heap.size)
    (h : ∀ v' w', w'.ownsRow base e size v' (n + m) (xs ++ news) → w.grownBy w' v.ownBlock → (v'.ownBlock = v.ownBlock ∨ v'.ownBlock = some w.heap.size) → wpList P ops Q rest (a.put o.dst v') w') : wpList P ops Q (o :: rest) a w :=
  wpList_plain hgd fun _ hK => wp_app s x ho ht hi hz hsize hby hzs hsz v n xs hsv hown m news hsrc h1 h63 hbytes hbase fun v' w' h2 h3 h4 => hK _ _ (h v' w' h2 h3 h4)
end

/-- A new block's cells, as a source. -/
theorem src_new {w : World} {T : TypeId} {size m : Nat} {news : List Value} (hl : news.length = m * size) : SrcAt (w.alloc (.cells news.toArray T)) size (some ⟨w.heap.size, 0, none⟩) m news := by
  refine ⟨hl, fun h => (by cases h), fun ad h j u hu => ?_⟩
  obtain rfl : ad = ⟨w.heap.size, 0, none⟩ := by simpa using h.symm
  have hadd : (⟨w.heap.size, 0, none⟩ : Addr).add j = ⟨w.heap.size, j, none⟩ := by
    unfold Addr.add
    split
    · rename_i h0; subst h0; rfl
    · simp
  rw [hadd]
  simpa using hu
theorem src_new_d {w : World} {T : TypeId} {size m : Nat} {news : List Value} (hl : news.length = m * size) : SrcAt (w.alloc (.cells news.toArray T)).drew size (some ⟨w.heap.size, 0, none⟩) m news := src_new (w := w) hl
theorem SrcAt.grown {w w1 : World} {size m : Nat} {A : Option Addr} {news : List Value} {r : Option Nat} (h : SrcAt w size A m news) (hg : w.grownBy w1 r) (hr : r = none ∨ ∀ ad, A = some ad → some ad.block ≠ r) : SrcAt w1 size A m news := by
  refine ⟨h.1, h.2.1, fun ad had j u hu => ?_⟩
  have hc := h.2.2 ad had j u hu
  have hb : (ad.add j).block = ad.block := by unfold Addr.add; split <;> rfl
  refine hg.cell hc ?_
  rw [hb]
  rcases hr with rfl | hr
  · simp
  · exact hr ad had
theorem Kp.grown {W0 w w1 : World} {r : Option Nat} (h : Kp W0 w) (hg : w.grownBy w1 r) (hr : ∀ k, r = some k → W0.heap.size ≤ k) : Kp W0 w1 :=
  .of (h.1.grown hg h.1.size hr)
theorem Kp.alloc {W0 w : World} (h : Kp W0 w) (o : Obj) : Kp W0 (w.alloc o) := .of (h.1.alloc h.1.size o)
theorem Kp.drew {W0 w : World} (h : Kp W0 w) : Kp W0 w.drew := .of h.1.drew
end Go.Proofs.YtcgpobeidlimkaaGreatDoor
