/- Atoms that Props has collected; slices.Contains of atoms. -/
import Derived.Test.YtogopcejapklgaaGreatDoorTxG
import Derived.Test.YtogopcejapklgaaGreatDoorBunF
import Derived.BigQuiet
namespace Go.Proofs.YtogopcejapklgaaGreatDoor
open Go.RowKit

def prC (p : Pr) : List Value := [.int .i64 p.k, .int .i64 p.t, .int .i64 p.a, .int .i64 p.n]
theorem prC_len (p : Pr) : (prC p).length = 4 := rfl
theorem prC_one1 (p : Pr) : ∀ u ∈ prC p, u.oneCell' = true := by
  intro u hx
  simp [prC] at hx
  rcases hx with rfl | rfl | rfl | rfl <;> rfl
theorem prp_info : (Tryz.prog.info? 27).map (fun i => (i.zero, i.size, i.bytes)) = some (some (.agg #[.int .i64 0, .int .i64 0, .int .i64 0, .int .i64 0]), 4, 32) := by kernel_rfl
/-- Atoms that the call has collected. -/
def PrpO (w : World) (B : Nat) (v : Value) (L : List Pr) : Prop := w.ownsRow B 27 4 v L.length (L.flatMap prC)
theorem PrpO.nil_ {w : World} {B : Nat} : PrpO w B (.slice none 0 0) [] := World.ownsRow_nil _ _ _ _
theorem PrpO.sl {w : World} {B : Nat} {v : Value} {l : List Pr} (h : PrpO w B v l) : ∃ a c, v = .slice a l.length c := own_at h
theorem PrpO.grown {w w' : World} {B : Nat} {v : Value} {l : List Pr} {r : Option Nat} (h : PrpO w B v l) (hg : w.grownBy w' r) (hr : ∀ k, r = some k → k < B) : PrpO w' B v l := by
  refine World.ownsRow.kept h hg ?_
  rcases hv : v.ownBlock with _ | k
  · exact .inl rfl
  · right
    intro e
    have := (World.ownsRow.lt h k hv)
    have := hr k e.symm
    omega
theorem PrpO.below {w w' : World} {B : Nat} {v : Value} {l : List Pr} (h : PrpO w B v l) (hb : Below w.heap.size w w') : PrpO w' B v l :=
  h.grown ⟨hb.os, hb.tape, hb.output, hb.size, fun k hk _ => hb.block k hk⟩ (r := none) fun _ e => by cases e
/-- append of one atom, out of a new block. -/
theorem list_prp {ops : Array Oper} {rest : List Oper} {o : Oper} {a : Act} {w : World} {base : Nat} {Q : Exit → Act → World → Prop} (s x : Operand) (v : Value) (l : List Pr) (p : Pr) {T : TypeId}
    (hgd : o.guard = none) (ho : o.op = .call { callee := .builtin .append, args := #[s, x], argTypes := #[50, 50] })
    (hsv : a.eval s = v) (hx : a.eval x = .slice (some ⟨w.heap.size, 0, none⟩) 1 1) (hown : PrpO w base v l) (hb : l.length + 1 ≤ 100000) (hbase : base ≤ w.heap.size)
    (h : ∀ A c w', PrpO w' base (.slice A (l.length + 1) c) (l ++ [p]) → (w.alloc (.cells #[.int .i64 p.k, .int .i64 p.t, .int .i64 p.a, .int .i64 p.n] T)).grownBy w' v.ownBlock → ((Value.slice A (l.length + 1) c).ownBlock = v.ownBlock ∨ ∀ k, (Value.slice A (l.length + 1) c).ownBlock = some k → w.heap.size ≤ k) → wpList Tryz.prog ops Q rest (a.put o.dst (.slice A (l.length + 1) c)) w') :
    wpList Tryz.prog ops Q (o :: rest) a (w.alloc (.cells #[.int .i64 p.k, .int .i64 p.t, .int .i64 p.a, .int .i64 p.n] T)) := by
  obtain ⟨i0, hi, hz0, hz1, hz2⟩ := info_parts prp_info
  have h1 : (w.alloc (.cells (prC p).toArray T)).ownsRow base 27 4 v l.length (l.flatMap prC) := hown.below ((Below.refl _ _).alloc (Nat.le_refl _) _)
  have hsrc : SrcAt (w.alloc (.cells (prC p).toArray T)) 4 (some ⟨w.heap.size, 0, none⟩) 1 (prC p) := src_new rfl
  refine list_app hgd s x ho Tryz.underlying50 hi hz0 hz1 hz2 rfl (by decide) v l.length (l.flatMap prC) hsv h1 1 (prC p) ⟨_, _, hx, hsrc⟩ (prC_one1 p) (by simp only [maxLen]; omega) (by omega) (Nat.le_trans hbase ((Below.refl w.heap.size w).alloc (Nat.le_refl _) _).size) fun v' w' g1 g2 g3 => ?_
  obtain ⟨A', c', rfl⟩ := own_at g1
  refine h A' c' w' ?_ g2 (g3.imp id fun e k hk => by rw [e] at hk; cases hk; exact ((Below.refl w.heap.size w).alloc (Nat.le_refl _) _).size)
  unfold PrpO
  rw [List.length_append, List.flatMap_append]
  simpa using g1
/-- Atoms lie where a slice leads. -/
def PrIn (w : World) (S : Nat → Prop) (a : Option Addr) (n cap : Nat) (l : List Pr) : Prop := n = l.length ∧ Sl w S 4 a l.length cap (celAt prC l)
namespace PrIn
variable {w w' : World} {S S' : Nat → Prop} {a : Option Addr} {n cap : Nat} {l : List Pr}
theorem keep (h : PrIn w S a n cap l) (hk : ∀ b o, S b → w'.cell? ⟨b, o, none⟩ = w.cell? ⟨b, o, none⟩) : PrIn w' S a n cap l := ⟨h.1, h.2.keep hk⟩
theorem widen (h : PrIn w S a n cap l) (hS : ∀ b, S b → S' b) : PrIn w S' a n cap l := ⟨h.1, h.2.widen hS⟩
theorem at_ (h : PrIn w S a n cap l) (i : Nat) (hi : i < l.length) : ∃ b off, a = some ⟨b, off, none⟩ ∧ S b ∧ w.cell? ⟨b, off + i * 4, none⟩ = some (.int .i64 l[i].k) ∧ w.cell? ⟨b, off + i * 4 + 1, none⟩ = some (.int .i64 l[i].t)
    ∧ w.cell? ⟨b, off + i * 4 + 2, none⟩ = some (.int .i64 l[i].a) ∧ w.cell? ⟨b, off + i * 4 + 3, none⟩ = some (.int .i64 l[i].n) := by
  obtain ⟨b, off, rfl, hb, hc⟩ := h.2.at_ (by omega)
  refine ⟨b, off, rfl, hb, ?_, ?_, ?_, ?_⟩
  · have := hc i hi 0 (by omega)
    simpa [celAt, prC, hi] using this
  · have := hc i hi 1 (by omega)
    simpa [celAt, prC, hi, Nat.add_assoc] using this
  · have := hc i hi 2 (by omega)
    simpa [celAt, prC, hi, Nat.add_assoc] using this
  · have := hc i hi 3 (by omega)
    simpa [celAt, prC, hi, Nat.add_assoc] using this
end PrIn
theorem PrpO.in_ {w : World} {B : Nat} {v : Value} {L : List Pr} (h : PrpO w B v L) : ∃ a cap, v = .slice a L.length cap ∧ PrIn w (fun b => B ≤ b ∧ b < w.heap.size) a L.length cap L := by
  obtain ⟨a, cap, rfl, hs⟩ := Sl.of_own prC 4 prC_len h
  exact ⟨a, cap, rfl, rfl, hs⟩

set_option maxRecDepth 100000 in
set_option maxHeartbeats 4000000 in
theorem pindex_any (l : List Pr) (p : Pr) (a : Option Addr) (cap : Nat) (w : World) (hin : PrIn w (In_ w) a l.length cap l) :
    Calls Tryz.prog 50 #[.slice a l.length cap, .agg #[.int .i64 p.k, .int .i64 p.t, .int .i64 p.a, .int .i64 p.n]] w
      fun e w' => ∃ r : Int, e = .returned (.int .i64 r) ∧ -1 ≤ r ∧ (decide (0 ≤ r) = l.any (eqP p)) ∧ Below w.heap.size w w' := by
  have hmx := hin.2.mx
  have hle := hin.2.le
  unfold maxLen at hmx
  have Hin := hid hin
  clear hin
  obtain ⟨pk, pt, pa, pn⟩ := p
  go_enter Tryz.func50, Tryz.ntmps50
  go_upto_region 1 with fail
  generalize hW : World.alloc w _ = W1
  have hh : Hid (W1.heap[w.heap.size]? = some (prO ⟨pk, pt, pa, pn⟩)) := by subst hW; exact alloc_at rfl
  have hB1 : Hid (Kp w W1) := by subst hW; exact hid (Kp.of ((Below.refl _ _).alloc (Nat.le_refl _) _))
  clear hW
  go_wp2_with fail
  go_loopw [8] (fun i wr => ∃ q : Nat, q ≤ l.length ∧ i = .int .i64 q ∧ Hid (∀ i (h1 : i < l.length), i < q → eqP ⟨pk, pt, pa, pn⟩ l[i] = false) ∧ Kp W1 wr) (fun i _ => l.length - (intOf i).toNat)
  case atStart => exact ⟨0, Nat.zero_le _, rfl, fun i _ h => absurd h (by omega), Kp.refl _⟩
  case round =>
    obtain ⟨q, hq, rfl, hI, hK⟩ := hrel
    by_cases hlt : q < l.length
    case neg =>
      obtain rfl : q = l.length := by omega
      have hf : Hid (l.any (eqP ⟨pk, pt, pa, pn⟩) = false) := hid (List.any_eq_false.2 fun x hx => by
        obtain ⟨i, hi, rfl⟩ := List.getElem_of_mem hx
        rw [hI.out i hi hi]; simp)
      have hb := hid (hB1.out.1.trans (hK.1.mono hB1.out.1.size))
      clear hI hK
      go_wp2_with fail
      go_ret
      exact ⟨-1, rfl, by omega, by rw [hf.out]; rfl, hb.out⟩
    have hin' : PrIn wr (In_ w) a l.length cap l := Hin.out.keep fun b o hb => (hK.2 b o (Nat.lt_of_lt_of_le hb hB1.out.1.size)).trans (hB1.out.2 b o hb)
    obtain ⟨b, off, rfl, hb, e0, e1, e2, e3⟩ := hin'.at_ q hlt
    have hz1 := (prO_cells hh.out).1
    have hh' := (hK.1.block _ hz1).trans hh.out
    obtain ⟨-, -, c0, c1, c2, c3⟩ := prO_cells hh'
    dsimp only at c0 c1 c2 c3
    have hbl : b < w.heap.size := hb
    have g0 := hK.1.size
    have g1 := hB1.out.1.size
    have q0 : (0 : Int) ≤ q := by omega
    have q1 : (q : Int) < l.length := by omega
    have gb : b < wr.heap.size := by omega
    have hbad : Hid (eqP ⟨pk, pt, pa, pn⟩ l[q] = false → ∀ i (h1 : i < l.length), i < q + 1 → eqP ⟨pk, pt, pa, pn⟩ l[i] = false) := fun h i h1 hi => by
      by_cases e : i = q
      · subst e; exact h
      · exact hI.out i h1 (by omega)
    have hgood : Hid (eqP ⟨pk, pt, pa, pn⟩ l[q] = true → l.any (eqP ⟨pk, pt, pa, pn⟩) = true) := hid fun h => List.any_eq_true.2 ⟨l[q], List.getElem_mem hlt, h⟩
    have hdef : Hid (eqP ⟨pk, pt, pa, pn⟩ l[q] = (pk == l[q].k && pt == l[q].t && pa == l[q].a && pn == l[q].n)) := hid rfl
    generalize eqP ⟨pk, pt, pa, pn⟩ l[q] = bq at *
    generalize l[q].k = xk at *
    generalize l[q].t = xt at *
    generalize l[q].a = xa at *
    generalize l[q].n = xn at *
    have HB := hid (hB1.out.1.trans (hK.1.mono hB1.out.1.size))
    clear hI hin' hh'
    by_cases h1 : pk = xk
    case neg =>
      have hg := hid (hbad.out (by rw [hdef.out]; simp [h1]))
      clear hbad hgood
      go_wp2_with fail
      refine wp_region_held_drew (S := fun W => W.cell? ⟨w.heap.size, 0, none⟩ = some (.int .i64 pk) ∧ W.cell? ⟨w.heap.size, 1, none⟩ = some (.int .i64 pt) ∧ W.cell? ⟨w.heap.size, 2, none⟩ = some (.int .i64 pa) ∧ W.cell? ⟨w.heap.size, 3, none⟩ = some (.int .i64 pn) ∧ W.cell? ⟨b, off + q * 4, none⟩ = some (.int .i64 xk) ∧ W.cell? ⟨b, off + q * 4 + 1, none⟩ = some (.int .i64 xt) ∧ W.cell? ⟨b, off + q * 4 + 2, none⟩ = some (.int .i64 xa) ∧ W.cell? ⟨b, off + q * 4 + 3, none⟩ = some (.int .i64 xn)) (by kernel_rfl) ⟨c0, c1, c2, c3, e0, e1, e2, e3⟩ (fun hHeld => ?_)
      refine takeL (i := 0) (v := ?_) rfl (by kernel_rfl) (by kernel_rfl) (by kernel_rfl) (fun _ _ _ h => h) (Or.inl ⟨by rfl, ?_⟩) (by assumption) ?_
      rotate_left
      focus (intro w hSw; obtain ⟨s0, s1, s2, s3, s4, s5, s6, s7⟩ := hSw; go_simp; try with_reducible rfl)
      try simp only [Act.put, List.setIfInBounds_toArray, List.set_cons_zero, List.set_cons_succ]
      refine takeL (i := 1) (v := ?_) rfl (by kernel_rfl) (by kernel_rfl) (by kernel_rfl) (fun _ _ _ h => h) (Or.inl ⟨by rfl, ?_⟩) (by assumption) ?_
      rotate_left
      focus (intro w hSw; obtain ⟨s0, s1, s2, s3, s4, s5, s6, s7⟩ := hSw; go_simp; try with_reducible rfl)
      try simp only [Act.put, List.setIfInBounds_toArray, List.set_cons_zero, List.set_cons_succ]
      refine takeL (i := 2) (v := ?_) rfl (by kernel_rfl) (by kernel_rfl) (by kernel_rfl) (fun _ _ _ h => h) (Or.inl ⟨by rfl, ?_⟩) (by assumption) ?_
      rotate_left
      focus (intro w hSw; obtain ⟨s0, s1, s2, s3, s4, s5, s6, s7⟩ := hSw; go_simp; try with_reducible rfl)
      try simp only [Act.put, List.setIfInBounds_toArray, List.set_cons_zero, List.set_cons_succ]
      refine takeL (i := 3) (v := ?_) rfl (by kernel_rfl) (by kernel_rfl) (by kernel_rfl) (fun _ _ _ h => h) (Or.inl ⟨by rfl, ?_⟩) (by assumption) ?_
      rotate_left
      focus (intro w hSw; obtain ⟨s0, s1, s2, s3, s4, s5, s6, s7⟩ := hSw; go_simp; try with_reducible rfl)
      try simp only [Act.put, List.setIfInBounds_toArray, List.set_cons_zero, List.set_cons_succ]
      refine takeL (i := 4) (v := ?_) rfl (by kernel_rfl) (by kernel_rfl) (by kernel_rfl) (fun _ _ _ h => h) (Or.inl ⟨by rfl, ?_⟩) (by assumption) ?_
      rotate_left
      focus (intro w hSw; obtain ⟨s0, s1, s2, s3, s4, s5, s6, s7⟩ := hSw; go_simp; try with_reducible rfl)
      try simp only [Act.put, List.setIfInBounds_toArray, List.set_cons_zero, List.set_cons_succ]
      refine takeL (i := 5) (v := ?_) rfl (by kernel_rfl) (by kernel_rfl) (by kernel_rfl) (fun _ _ _ h => h) (Or.inl ⟨by rfl, ?_⟩) (by assumption) ?_
      rotate_left
      focus (intro w hSw; obtain ⟨s0, s1, s2, s3, s4, s5, s6, s7⟩ := hSw; go_simp; try with_reducible rfl)
      try simp only [Act.put, List.setIfInBounds_toArray, List.set_cons_zero, List.set_cons_succ]
      refine wpAnyH_done (by kernel_rfl) ?_ _
      have hK2 := drewN_kp hK 1
      go_wp2_with fail
      go_roundw
      case rel => exact ⟨q + 1, by omega, by simp, hg, hK2⟩
      case measure => simp [intOf]; omega
    subst h1
    by_cases h2 : pt = xt
    case neg =>
      have hg := hid (hbad.out (by rw [hdef.out]; simp [h2]))
      clear hbad hgood
      go_wp2_with fail
      refine wp_region_held_drew (S := fun W => W.cell? ⟨w.heap.size, 0, none⟩ = some (.int .i64 pk) ∧ W.cell? ⟨w.heap.size, 1, none⟩ = some (.int .i64 pt) ∧ W.cell? ⟨w.heap.size, 2, none⟩ = some (.int .i64 pa) ∧ W.cell? ⟨w.heap.size, 3, none⟩ = some (.int .i64 pn) ∧ W.cell? ⟨b, off + q * 4, none⟩ = some (.int .i64 pk) ∧ W.cell? ⟨b, off + q * 4 + 1, none⟩ = some (.int .i64 xt) ∧ W.cell? ⟨b, off + q * 4 + 2, none⟩ = some (.int .i64 xa) ∧ W.cell? ⟨b, off + q * 4 + 3, none⟩ = some (.int .i64 xn)) (by kernel_rfl) ⟨c0, c1, c2, c3, e0, e1, e2, e3⟩ (fun hHeld => ?_)
      refine takeL (i := 0) (v := ?_) rfl (by kernel_rfl) (by kernel_rfl) (by kernel_rfl) (fun _ _ _ h => h) (Or.inl ⟨by rfl, ?_⟩) (by assumption) ?_
      rotate_left
      focus (intro w hSw; obtain ⟨s0, s1, s2, s3, s4, s5, s6, s7⟩ := hSw; go_simp; try with_reducible rfl)
      try simp only [Act.put, List.setIfInBounds_toArray, List.set_cons_zero, List.set_cons_succ]
      refine takeL (i := 1) (v := ?_) rfl (by kernel_rfl) (by kernel_rfl) (by kernel_rfl) (fun _ _ _ h => h) (Or.inl ⟨by rfl, ?_⟩) (by assumption) ?_
      rotate_left
      focus (intro w hSw; obtain ⟨s0, s1, s2, s3, s4, s5, s6, s7⟩ := hSw; go_simp; try with_reducible rfl)
      try simp only [Act.put, List.setIfInBounds_toArray, List.set_cons_zero, List.set_cons_succ]
      refine takeL (i := 2) (v := ?_) rfl (by kernel_rfl) (by kernel_rfl) (by kernel_rfl) (fun _ _ _ h => h) (Or.inl ⟨by rfl, ?_⟩) (by assumption) ?_
      rotate_left
      focus (intro w hSw; obtain ⟨s0, s1, s2, s3, s4, s5, s6, s7⟩ := hSw; go_simp; try with_reducible rfl)
      try simp only [Act.put, List.setIfInBounds_toArray, List.set_cons_zero, List.set_cons_succ]
      refine takeL (i := 3) (v := ?_) rfl (by kernel_rfl) (by kernel_rfl) (by kernel_rfl) (fun _ _ _ h => h) (Or.inl ⟨by rfl, ?_⟩) (by assumption) ?_
      rotate_left
      focus (intro w hSw; obtain ⟨s0, s1, s2, s3, s4, s5, s6, s7⟩ := hSw; go_simp; try with_reducible rfl)
      try simp only [Act.put, List.setIfInBounds_toArray, List.set_cons_zero, List.set_cons_succ]
      refine takeL (i := 4) (v := ?_) rfl (by kernel_rfl) (by kernel_rfl) (by kernel_rfl) (fun _ _ _ h => h) (Or.inl ⟨by rfl, ?_⟩) (by assumption) ?_
      rotate_left
      focus (intro w hSw; obtain ⟨s0, s1, s2, s3, s4, s5, s6, s7⟩ := hSw; go_simp; try with_reducible rfl)
      try simp only [Act.put, List.setIfInBounds_toArray, List.set_cons_zero, List.set_cons_succ]
      refine takeL (i := 5) (v := ?_) rfl (by kernel_rfl) (by kernel_rfl) (by kernel_rfl) (fun _ _ _ h => h) (Or.inl ⟨by rfl, ?_⟩) (by assumption) ?_
      rotate_left
      focus (intro w hSw; obtain ⟨s0, s1, s2, s3, s4, s5, s6, s7⟩ := hSw; go_simp; try with_reducible rfl)
      try simp only [Act.put, List.setIfInBounds_toArray, List.set_cons_zero, List.set_cons_succ]
      refine wpAnyH_done (by kernel_rfl) ?_ _
      have hK2 := drewN_kp hK 1
      go_wp2_with fail
      go_roundw
      case rel => exact ⟨q + 1, by omega, by simp, hg, hK2⟩
      case measure => simp [intOf]; omega
    subst h2
    by_cases h3 : pa = xa
    case neg =>
      have hg := hid (hbad.out (by rw [hdef.out]; simp [h3]))
      clear hbad hgood
      go_wp2_with fail
      refine wp_region_held_drew (S := fun W => W.cell? ⟨w.heap.size, 0, none⟩ = some (.int .i64 pk) ∧ W.cell? ⟨w.heap.size, 1, none⟩ = some (.int .i64 pt) ∧ W.cell? ⟨w.heap.size, 2, none⟩ = some (.int .i64 pa) ∧ W.cell? ⟨w.heap.size, 3, none⟩ = some (.int .i64 pn) ∧ W.cell? ⟨b, off + q * 4, none⟩ = some (.int .i64 pk) ∧ W.cell? ⟨b, off + q * 4 + 1, none⟩ = some (.int .i64 pt) ∧ W.cell? ⟨b, off + q * 4 + 2, none⟩ = some (.int .i64 xa) ∧ W.cell? ⟨b, off + q * 4 + 3, none⟩ = some (.int .i64 xn)) (by kernel_rfl) ⟨c0, c1, c2, c3, e0, e1, e2, e3⟩ (fun hHeld => ?_)
      refine takeL (i := 0) (v := ?_) rfl (by kernel_rfl) (by kernel_rfl) (by kernel_rfl) (fun _ _ _ h => h) (Or.inl ⟨by rfl, ?_⟩) (by assumption) ?_
      rotate_left
      focus (intro w hSw; obtain ⟨s0, s1, s2, s3, s4, s5, s6, s7⟩ := hSw; go_simp; try with_reducible rfl)
      try simp only [Act.put, List.setIfInBounds_toArray, List.set_cons_zero, List.set_cons_succ]
      refine takeL (i := 1) (v := ?_) rfl (by kernel_rfl) (by kernel_rfl) (by kernel_rfl) (fun _ _ _ h => h) (Or.inl ⟨by rfl, ?_⟩) (by assumption) ?_
      rotate_left
      focus (intro w hSw; obtain ⟨s0, s1, s2, s3, s4, s5, s6, s7⟩ := hSw; go_simp; try with_reducible rfl)
      try simp only [Act.put, List.setIfInBounds_toArray, List.set_cons_zero, List.set_cons_succ]
      refine takeL (i := 2) (v := ?_) rfl (by kernel_rfl) (by kernel_rfl) (by kernel_rfl) (fun _ _ _ h => h) (Or.inl ⟨by rfl, ?_⟩) (by assumption) ?_
      rotate_left
      focus (intro w hSw; obtain ⟨s0, s1, s2, s3, s4, s5, s6, s7⟩ := hSw; go_simp; try with_reducible rfl)
      try simp only [Act.put, List.setIfInBounds_toArray, List.set_cons_zero, List.set_cons_succ]
      refine takeL (i := 3) (v := ?_) rfl (by kernel_rfl) (by kernel_rfl) (by kernel_rfl) (fun _ _ _ h => h) (Or.inl ⟨by rfl, ?_⟩) (by assumption) ?_
      rotate_left
      focus (intro w hSw; obtain ⟨s0, s1, s2, s3, s4, s5, s6, s7⟩ := hSw; go_simp; try with_reducible rfl)
      try simp only [Act.put, List.setIfInBounds_toArray, List.set_cons_zero, List.set_cons_succ]
      refine takeL (i := 4) (v := ?_) rfl (by kernel_rfl) (by kernel_rfl) (by kernel_rfl) (fun _ _ _ h => h) (Or.inl ⟨by rfl, ?_⟩) (by assumption) ?_
      rotate_left
      focus (intro w hSw; obtain ⟨s0, s1, s2, s3, s4, s5, s6, s7⟩ := hSw; go_simp; try with_reducible rfl)
      try simp only [Act.put, List.setIfInBounds_toArray, List.set_cons_zero, List.set_cons_succ]
      refine takeL (i := 5) (v := ?_) rfl (by kernel_rfl) (by kernel_rfl) (by kernel_rfl) (fun _ _ _ h => h) (Or.inl ⟨by rfl, ?_⟩) (by assumption) ?_
      rotate_left
      focus (intro w hSw; obtain ⟨s0, s1, s2, s3, s4, s5, s6, s7⟩ := hSw; go_simp; try with_reducible rfl)
      try simp only [Act.put, List.setIfInBounds_toArray, List.set_cons_zero, List.set_cons_succ]
      refine wpAnyH_done (by kernel_rfl) ?_ _
      have hK2 := drewN_kp hK 1
      go_wp2_with fail
      go_roundw
      case rel => exact ⟨q + 1, by omega, by simp, hg, hK2⟩
      case measure => simp [intOf]; omega
    subst h3
    by_cases h4 : pn = xn
    case neg =>
      have hg := hid (hbad.out (by rw [hdef.out]; simp [h4]))
      clear hbad hgood
      go_wp2_with fail
      refine wp_region_held_drew (S := fun W => W.cell? ⟨w.heap.size, 0, none⟩ = some (.int .i64 pk) ∧ W.cell? ⟨w.heap.size, 1, none⟩ = some (.int .i64 pt) ∧ W.cell? ⟨w.heap.size, 2, none⟩ = some (.int .i64 pa) ∧ W.cell? ⟨w.heap.size, 3, none⟩ = some (.int .i64 pn) ∧ W.cell? ⟨b, off + q * 4, none⟩ = some (.int .i64 pk) ∧ W.cell? ⟨b, off + q * 4 + 1, none⟩ = some (.int .i64 pt) ∧ W.cell? ⟨b, off + q * 4 + 2, none⟩ = some (.int .i64 pa) ∧ W.cell? ⟨b, off + q * 4 + 3, none⟩ = some (.int .i64 xn)) (by kernel_rfl) ⟨c0, c1, c2, c3, e0, e1, e2, e3⟩ (fun hHeld => ?_)
      refine takeL (i := 0) (v := ?_) rfl (by kernel_rfl) (by kernel_rfl) (by kernel_rfl) (fun _ _ _ h => h) (Or.inl ⟨by rfl, ?_⟩) (by assumption) ?_
      rotate_left
      focus (intro w hSw; obtain ⟨s0, s1, s2, s3, s4, s5, s6, s7⟩ := hSw; go_simp; try with_reducible rfl)
      try simp only [Act.put, List.setIfInBounds_toArray, List.set_cons_zero, List.set_cons_succ]
      refine takeL (i := 1) (v := ?_) rfl (by kernel_rfl) (by kernel_rfl) (by kernel_rfl) (fun _ _ _ h => h) (Or.inl ⟨by rfl, ?_⟩) (by assumption) ?_
      rotate_left
      focus (intro w hSw; obtain ⟨s0, s1, s2, s3, s4, s5, s6, s7⟩ := hSw; go_simp; try with_reducible rfl)
      try simp only [Act.put, List.setIfInBounds_toArray, List.set_cons_zero, List.set_cons_succ]
      refine takeL (i := 2) (v := ?_) rfl (by kernel_rfl) (by kernel_rfl) (by kernel_rfl) (fun _ _ _ h => h) (Or.inl ⟨by rfl, ?_⟩) (by assumption) ?_
      rotate_left
      focus (intro w hSw; obtain ⟨s0, s1, s2, s3, s4, s5, s6, s7⟩ := hSw; go_simp; try with_reducible rfl)
      try simp only [Act.put, List.setIfInBounds_toArray, List.set_cons_zero, List.set_cons_succ]
      refine takeL (i := 3) (v := ?_) rfl (by kernel_rfl) (by kernel_rfl) (by kernel_rfl) (fun _ _ _ h => h) (Or.inl ⟨by rfl, ?_⟩) (by assumption) ?_
      rotate_left
      focus (intro w hSw; obtain ⟨s0, s1, s2, s3, s4, s5, s6, s7⟩ := hSw; go_simp; try with_reducible rfl)
      try simp only [Act.put, List.setIfInBounds_toArray, List.set_cons_zero, List.set_cons_succ]
      refine takeL (i := 4) (v := ?_) rfl (by kernel_rfl) (by kernel_rfl) (by kernel_rfl) (fun _ _ _ h => h) (Or.inl ⟨by rfl, ?_⟩) (by assumption) ?_
      rotate_left
      focus (intro w hSw; obtain ⟨s0, s1, s2, s3, s4, s5, s6, s7⟩ := hSw; go_simp; try with_reducible rfl)
      try simp only [Act.put, List.setIfInBounds_toArray, List.set_cons_zero, List.set_cons_succ]
      refine takeL (i := 5) (v := ?_) rfl (by kernel_rfl) (by kernel_rfl) (by kernel_rfl) (fun _ _ _ h => h) (Or.inl ⟨by rfl, ?_⟩) (by assumption) ?_
      rotate_left
      focus (intro w hSw; obtain ⟨s0, s1, s2, s3, s4, s5, s6, s7⟩ := hSw; go_simp; try with_reducible rfl)
      try simp only [Act.put, List.setIfInBounds_toArray, List.set_cons_zero, List.set_cons_succ]
      refine wpAnyH_done (by kernel_rfl) ?_ _
      have hK2 := drewN_kp hK 1
      go_wp2_with fail
      go_roundw
      case rel => exact ⟨q + 1, by omega, by simp, hg, hK2⟩
      case measure => simp [intOf]; omega
    subst h4
    have hg := hid (hgood.out (by rw [hdef.out]; simp))
    clear hbad hgood
    go_wp2_with fail
    refine wp_region_held_drew (S := fun W => W.cell? ⟨w.heap.size, 0, none⟩ = some (.int .i64 pk) ∧ W.cell? ⟨w.heap.size, 1, none⟩ = some (.int .i64 pt) ∧ W.cell? ⟨w.heap.size, 2, none⟩ = some (.int .i64 pa) ∧ W.cell? ⟨w.heap.size, 3, none⟩ = some (.int .i64 pn) ∧ W.cell? ⟨b, off + q * 4, none⟩ = some (.int .i64 pk) ∧ W.cell? ⟨b, off + q * 4 + 1, none⟩ = some (.int .i64 pt) ∧ W.cell? ⟨b, off + q * 4 + 2, none⟩ = some (.int .i64 pa) ∧ W.cell? ⟨b, off + q * 4 + 3, none⟩ = some (.int .i64 pn)) (by kernel_rfl) ⟨c0, c1, c2, c3, e0, e1, e2, e3⟩ (fun hHeld => ?_)
    refine takeL (i := 0) (v := ?_) rfl (by kernel_rfl) (by kernel_rfl) (by kernel_rfl) (fun _ _ _ h => h) (Or.inl ⟨by rfl, ?_⟩) (by assumption) ?_
    rotate_left
    focus (intro w hSw; obtain ⟨s0, s1, s2, s3, s4, s5, s6, s7⟩ := hSw; go_simp; try with_reducible rfl)
    try simp only [Act.put, List.setIfInBounds_toArray, List.set_cons_zero, List.set_cons_succ]
    refine takeL (i := 1) (v := ?_) rfl (by kernel_rfl) (by kernel_rfl) (by kernel_rfl) (fun _ _ _ h => h) (Or.inl ⟨by rfl, ?_⟩) (by assumption) ?_
    rotate_left
    focus (intro w hSw; obtain ⟨s0, s1, s2, s3, s4, s5, s6, s7⟩ := hSw; go_simp; try with_reducible rfl)
    try simp only [Act.put, List.setIfInBounds_toArray, List.set_cons_zero, List.set_cons_succ]
    refine takeL (i := 2) (v := ?_) rfl (by kernel_rfl) (by kernel_rfl) (by kernel_rfl) (fun _ _ _ h => h) (Or.inl ⟨by rfl, ?_⟩) (by assumption) ?_
    rotate_left
    focus (intro w hSw; obtain ⟨s0, s1, s2, s3, s4, s5, s6, s7⟩ := hSw; go_simp; try with_reducible rfl)
    try simp only [Act.put, List.setIfInBounds_toArray, List.set_cons_zero, List.set_cons_succ]
    refine takeL (i := 3) (v := ?_) rfl (by kernel_rfl) (by kernel_rfl) (by kernel_rfl) (fun _ _ _ h => h) (Or.inl ⟨by rfl, ?_⟩) (by assumption) ?_
    rotate_left
    focus (intro w hSw; obtain ⟨s0, s1, s2, s3, s4, s5, s6, s7⟩ := hSw; go_simp; try with_reducible rfl)
    try simp only [Act.put, List.setIfInBounds_toArray, List.set_cons_zero, List.set_cons_succ]
    refine takeL (i := 4) (v := ?_) rfl (by kernel_rfl) (by kernel_rfl) (by kernel_rfl) (fun _ _ _ h => h) (Or.inl ⟨by rfl, ?_⟩) (by assumption) ?_
    rotate_left
    focus (intro w hSw; obtain ⟨s0, s1, s2, s3, s4, s5, s6, s7⟩ := hSw; go_simp; try with_reducible rfl)
    try simp only [Act.put, List.setIfInBounds_toArray, List.set_cons_zero, List.set_cons_succ]
    refine takeL (i := 5) (v := ?_) rfl (by kernel_rfl) (by kernel_rfl) (by kernel_rfl) (fun _ _ _ h => h) (Or.inl ⟨by rfl, ?_⟩) (by assumption) ?_
    rotate_left
    focus (intro w hSw; obtain ⟨s0, s1, s2, s3, s4, s5, s6, s7⟩ := hSw; go_simp; try with_reducible rfl)
    try simp only [Act.put, List.setIfInBounds_toArray, List.set_cons_zero, List.set_cons_succ]
    refine wpAnyH_done (by kernel_rfl) ?_ _
    have hX := hid (HB.out.trans ((drewN_kp (Kp.refl wr) 1).1.mono HB.out.size))
    go_wp2_with fail
    go_ret
    exact ⟨q, rfl, by omega, by rw [hg.out]; simp, hX.out⟩
theorem pcontains_any (l : List Pr) (p : Pr) (a : Option Addr) (cap : Nat) (w : World) (hin : PrIn w (In_ w) a l.length cap l) :
    Calls Tryz.prog 34 #[.slice a l.length cap, .agg #[.int .i64 p.k, .int .i64 p.t, .int .i64 p.a, .int .i64 p.n]] w
      fun e w' => e = .returned (.bool (l.any (eqP p))) ∧ Below w.heap.size w w' := by
  have hcall : Hid (∀ W, Below w.heap.size w W → Calls Tryz.prog 50 #[.slice a l.length cap, .agg #[.int .i64 p.k, .int .i64 p.t, .int .i64 p.a, .int .i64 p.n]] W
      fun e w' => ∃ r : Int, e = .returned (.int .i64 r) ∧ -1 ≤ r ∧ (decide (0 ≤ r) = l.any (eqP p)) ∧ Below W.heap.size W w') := hid fun W hb => pindex_any l p a cap W ((hin.keep fun b o hlt => hb.cell (p := ⟨b, o, none⟩) hlt).widen fun b hlt => Nat.lt_of_lt_of_le hlt hb.size)
  clear hin
  generalize l.any (eqP p) = bw at *
  generalize l.length = n at *
  obtain ⟨pk, pt, pa, pn⟩ := p
  go_enter Tryz.func34, Tryz.ntmps34
  go_upto_region 1 with fail
  generalize hW : World.alloc w _ = W1
  have hh : W1.heap[w.heap.size]? = some (prO ⟨pk, pt, pa, pn⟩) := by subst hW; exact alloc_at rfl
  have hB1 : Hid (Below w.heap.size w W1) := by subst hW; exact (Below.refl _ _).alloc (Nat.le_refl _) _
  obtain ⟨-, -, c0, c1, c2, c3⟩ := prO_cells hh
  dsimp only at c0 c1 c2 c3
  clear hW hh
  go_wp2_with (first
    | (go_at_call 50
       with_reducible refine (hcall.out W1 hB1.out).mono ?_
       rintro e w2 ⟨r, rfl, hr1, hr2, hb2⟩
       have hB2 := hid (hB1.out.trans (hb2.mono hB1.out.size))
       have hr2 := hid hr2
       clear hb2)
    | fail)
  go_ret
  exact ⟨ret_bool (by rw [← hr2.out]), hB2.out⟩
end Go.Proofs.YtogopcejapklgaaGreatDoor
