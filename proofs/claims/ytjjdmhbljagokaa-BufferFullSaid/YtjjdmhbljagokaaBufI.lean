/- The program's Look: a range over slices.Backward. -/
import Derived.RangeFuncNested
import Derived.RangeFuncBound
import Derived.RangeFuncCalls
import Derived.RangeFuncLeaves
import Derived.Shelf.Abstract
import Derived.Shelf.RegionOpen
import Derived.WalkKit
import Derived.OwnWalkIn
import Derived.TacticsInMore
import Derived.LoopNIn
import Derived.LoopIn
import Derived.Test.YtjjdmhbljagokaaBufB
namespace Go.Proofs.Ytjjdmhbljagokaa
open Go.RowKit Go.Shelf

attribute [local go_sem] Oper.semAt_some

/-- What has come when k rounds are over. -/
def upto {α : Type} (f : Nat → α) (k : Nat) : List α := (List.range k).map f
theorem upto_succ {α : Type} (f : Nat → α) (k : Nat) : upto f (k + 1) = upto f k ++ [f k] := by simp [upto, List.range_succ]
theorem upto_length {α : Type} (f : Nat → α) (k : Nat) : (upto f k).length = k := by simp [upto]

/-- The last stores first, each with its place. -/
def bk (l : List (Int × Int)) (j : Nat) : Int × Int × Int := ((l.length : Int) - 1 - j, (l[l.length - 1 - j]?.getD (0, 0)))

set_option maxRecDepth 100000 in
set_option maxHeartbeats 2000000 in
theorem back1_in (F : Fence) (n : Nat) (h28 : F.fn 28) (hro : F.round = none) (hn : 1 ≤ n) (lo Bs n₀ : Nat) (a : Option Addr) (cap : Nat) (l : List (Int × Int)) (hcap : cap ≤ maxLen) (hle : l.length ≤ cap) (J Jx : List (Int × Int × Int) → World → Prop)
    (hY : ∀ pre x W, J pre W → pre.length < l.length → YieldAt F (n - 1) Try.prog lo #[.int .i64 x.1, .agg #[.int .i64 x.2.1, .int .i64 x.2.2]] W fun e W' =>
      (e = .returned (.bool true) ∧ J (pre ++ [x]) W' ∧ Below n₀ W W') ∨ (e = .returned (.bool false) ∧ Jx (pre ++ [x]) W'))
    (W : World) (hBn : Bs < n₀) (hBs : W.cell? ⟨Bs, 0, none⟩ = some (.slice a l.length cap)) (hl : EnIn W (fun b => b < n₀) a l.length cap l) (h0 : J [] W) :
    CallsIn F n Try.prog 28 #[.func (.yield lo) #[] #[], .pointer (some ⟨Bs, 0, none⟩)] W fun e W' => (∃ v, e = .returned v) ∧
      ((∃ ys, ys = upto (bk l) l.length ∧ J ys W') ∨ (∃ pre, (∃ k, k ≤ l.length ∧ pre = upto (bk l) k) ∧ Jx pre W')) := by
  unfold maxLen at hcap
  refine callsIn_of_wp Try.func28 rfl h28 ?_ hro
  simp only [Try.ntmps28, List.size_toArray, List.length_cons, List.length_nil, Nat.reduceAdd, Nat.reduceSub, Array.replicate_succ, Array.replicate_zero, List.push_toArray, List.append_toArray, List.nil_append, List.cons_append]
  have hw0 : IntKind.i64.wrap ((l.length : Int) - 1) = (l.length : Int) - 1 := IntWalk.i64_in _ (by omega)
  gi_wp2
  gi_loopw [3] (fun i wr => ∃ k : Nat, k ≤ l.length ∧ i = .int .i64 ((l.length : Int) - 1 - k) ∧ J (upto (bk l) k) wr ∧ Below n₀ W wr)
    (fun i _ => (intOf i + 1).toNat)
  case atStart => exact ⟨0, Nat.zero_le _, by simp, h0, Below.refl _ _⟩
  case round =>
    obtain ⟨k, hk, rfl, hJs, hnx⟩ := hrel
    have hBs' : wr.cell? ⟨Bs, 0, none⟩ = some (.slice a l.length cap) := (hnx.cell (p := ⟨Bs, 0, none⟩) hBn).trans hBs
    by_cases hlt : k < l.length
    · obtain ⟨fn, tmps, assign, body, hy, hR⟩ := hY _ (bk l k) wr hJs (by rw [upto_length]; exact hlt)
      obtain ⟨m, hm⟩ : ∃ m : Nat, (m : Int) = (l.length : Int) - 1 - k := ⟨l.length - 1 - k, by omega⟩
      have hml : m < l.length := by omega
      have hmk : l.length - 1 - k = m := by omega
      have hbk : bk l k = ((m : Int), l[m]) := by unfold bk; rw [hmk, ← hm]; simp [hml]
      obtain ⟨b, off, rfl, hb, e0, e1⟩ := hl.at_ m hml
      have e0' := (hnx.cell (p := ⟨b, off + m * 2, none⟩) hb).trans e0
      have e1' := (hnx.cell (p := ⟨b, off + m * 2 + 1, none⟩) hb).trans e1
      rw [← hm]
      rw [hbk] at hy hR
      have hup := hid (upto_succ (bk l) k)
      rw [hbk] at hup
      have m0 : (0 : Int) ≤ m := by omega
      have m1 : (m : Int) < l.length := by omega
      have Hm := hid hm
      clear hbk hm hmk
      gi_wp2
      refine hR.mono ?_
      rintro e W3 (⟨rfl, hJ3, hk3⟩ | ⟨rfl, hJx3⟩)
      · have hw1 : IntKind.i64.wrap ((m : Int) - 1) = (m : Int) - 1 := IntWalk.i64_in _ (by omega)
        gi_wp2
        go_roundw
        case rel => exact ⟨k + 1, by omega, congrArg (Value.int .i64) (by have := Hm.out; simp only [Int.natCast_add, Int.natCast_one]; omega), by rw [hup.out]; exact hJ3, hnx.trans hk3⟩
        case measure => simp [intOf]
      · gi_wp2
        refine bodyPost_ret (results_none rfl _ _ _) rfl ?_
        exact ⟨⟨_, rfl⟩, .inr ⟨_, ⟨k + 1, by omega, hup.out.symm⟩, hJx3⟩⟩
    · obtain rfl : k = l.length := by omega
      have hneg : ¬ (0 : Int) ≤ (l.length : Int) - 1 - l.length := by omega
      gi_wp2
      go_end0
      exact ⟨⟨_, rfl⟩, .inl hJs⟩

set_option maxHeartbeats 1000000 in
theorem back_in (F : Fence) (n : Nat) (h21 : F.fn 21) (hro : F.round = none) (a : Option Addr) (len cap : Nat) (w : World) :
    CallsIn F n Try.prog 21 #[.slice a len cap] w fun e w' => e = .returned (.func (.func 28) #[] #[.pointer (some ⟨w.heap.size, 0, none⟩)]) ∧ w' = w.alloc (.cells #[.slice a len cap] 22) := by
  refine callsIn_of_wp Try.func21 rfl h21 ?_ hro
  simp only [Try.ntmps21, List.size_toArray, List.length_cons, List.length_nil, Nat.reduceAdd, Nat.reduceSub, Array.replicate_succ, Array.replicate_zero, List.push_toArray, List.append_toArray, List.nil_append, List.cons_append]
  gi_wp2
  go_ret
  exact ⟨rfl, rfl⟩

theorem back_stops (F : Fence) (n : Nat) (h28 : F.fn 28) (hro : F.round = none) (hn : 1 ≤ n) (Bs n₀ : Nat) (a : Option Addr) (cap : Nat) (l : List (Int × Int)) (w : World) (hBs : Bs < n₀) (hn₀ : n₀ ≤ w.heap.size)
    (hc : w.cell? ⟨Bs, 0, none⟩ = some (.slice a l.length cap)) (hl : EnIn w (fun b => b < n₀) a l.length cap l) :
    SeqStopsK F n Try.prog 28 #[.pointer (some ⟨Bs, 0, none⟩)] (fun x : Int × Int × Int => #[Value.int .i64 x.1, .agg #[.int .i64 x.2.1, .int .i64 x.2.2]]) (Below n₀) (fun ys => ys = upto (bk l) l.length)
      (fun pre => ∃ k, k ≤ l.length ∧ pre = upto (bk l) k) l.length w := fun lo J Jx W hW _ _ hY h0 =>
  back1_in F n h28 hro hn lo Bs n₀ a cap l hl.2.mx hl.2.le J Jx hY W hBs (((hW.mono hn₀).cell (p := ⟨Bs, 0, none⟩) hBs).trans hc) (hl.keep fun b o hb => (hW.mono hn₀).cell (p := ⟨b, o, none⟩) hb) h0

/-- Nothing seen among the last k. -/
theorem lookL_cut (v : Int) (l : List (Int × Int)) : ∀ (k : Nat), k ≤ l.length → (∀ p ∈ upto (bk l) k, p.2.1 ≠ v) → lookL v l = lookL v (l.take (l.length - k))
  | 0, _, _ => by simp
  | k + 1, hk, h => by
    rw [upto_succ] at h
    have ih := lookL_cut v l k (by omega) (fun p hp => h p (List.mem_append_left _ hp))
    have hb := h (bk l k) (by simp)
    have hm : l.length - 1 - k < l.length := by omega
    have e : l.length - k = (l.length - 1 - k) + 1 := by omega
    rw [ih, e, lookL_take v l _ hm, if_neg (by simpa [bk, hm] using hb)]
    congr 2
    omega
theorem lookL_hit (v : Int) (l : List (Int × Int)) (k : Nat) (hk : k < l.length) (h : ∀ p ∈ upto (bk l) k, p.2.1 ≠ v) (hv : (bk l k).2.1 = v) : lookL v l = ((bk l k).2.2, true) := by
  have hm : l.length - 1 - k < l.length := by omega
  have e : l.length - k = (l.length - 1 - k) + 1 := by omega
  rw [lookL_cut v l k (by omega) h, e, lookL_take v l _ hm]
  have hb : (bk l k).2 = l[l.length - 1 - k] := by simp [bk, hm]
  rw [hb] at hv ⊢
  rw [if_pos hv]

set_option maxRecDepth 100000 in
set_option maxHeartbeats 4000000 in
theorem look_in (F : Fence) (n : Nat) (h11 : F.fn 11) (h21 : F.fn 21) (h28 : F.fn 28) (hro : F.round = none) (hn : 3 ≤ n)
    (a : Option Addr) (cap : Nat) (l : List (Int × Int)) (v : Int) (w : World) (hl : EnIn w (In_ w) a l.length cap l) :
    CallsIn F n Try.prog 11 #[.slice a l.length cap, .int .i64 v] w (LookPost w (lookL v l)) := by
  have h1 : 1 ≤ n := by omega
  refine callsIn_of_wp_marks Try.func11 rfl h11 ?_ hro
  simp only [Try.ntmps11, List.size_toArray, List.length_cons, List.length_nil, Nat.reduceAdd, Nat.reduceSub, Array.replicate_succ, Array.replicate_zero, List.push_toArray, List.append_toArray, List.nil_append, List.cons_append]
  gi_wp2_with (gi_at_call 21; refine (back_in F (n - 1) h21 hro _ _ _ _).mono ?_; rintro e w' ⟨rfl, rfl⟩)
  have bV := Boxed.new w 3 (.int .i64 v)
  have b1 := Boxed.new (w.alloc (.cells #[.int .i64 v] 3)) 3 (.int .i64 0)
  have b2 := Boxed.new ((w.alloc (.cells #[.int .i64 v] 3)).alloc (.cells #[.int .i64 0] 3)) 4 (.bool false)
  have bN := Boxed.new (((w.alloc (.cells #[.int .i64 v] 3)).alloc (.cells #[.int .i64 0] 3)).alloc (.cells #[.bool false] 4)) 22 (.slice a l.length cap)
  have bV := ((bV.alloc (.cells #[.int .i64 0] 3)).alloc (.cells #[.bool false] 4)).alloc (.cells #[.slice a l.length cap] 22)
  have b1 := (b1.alloc (.cells #[.bool false] 4)).alloc (.cells #[.slice a l.length cap] 22)
  have b2 := b2.alloc (.cells #[.slice a l.length cap] 22)
  simp only [World.size_alloc] at b1 b2 bN
  have hB0 : Below w.heap.size w ((((w.alloc (.cells #[.int .i64 v] 3)).alloc (.cells #[.int .i64 0] 3)).alloc (.cells #[.bool false] 4)).alloc (.cells #[.slice a l.length cap] 22)) := ((((Below.refl _ w).alloc (Nat.le_refl _) _).alloc (by simp) _).alloc (by simp; omega) _).alloc (by simp; omega) _
  have hsz : ((((w.alloc (.cells #[.int .i64 v] 3)).alloc (.cells #[.int .i64 0] 3)).alloc (.cells #[.bool false] 4)).alloc (.cells #[.slice a l.length cap] 22)).heap.size = w.heap.size + 4 := by simp
  obtain ⟨W0, hW0⟩ : ∃ W0, (((w.alloc (.cells #[.int .i64 v] 3)).alloc (.cells #[.int .i64 0] 3)).alloc (.cells #[.bool false] 4)).alloc (.cells #[.slice a l.length cap] 22) = W0 := ⟨_, rfl⟩
  rw [hW0] at bV b1 b2 bN hB0 hsz ⊢
  clear hW0
  have hlw : EnIn W0 (fun b => b < w.heap.size + 4) a l.length cap l := ((Kp.of hB0).en hl).widen (fun b hb => by have := hb.lt; omega)
  refine wpIn_rangeFunc_ownH hro h1 (gf := 28) (lb := #[.pointer (some ⟨w.heap.size + 1 + 1 + 1, 0, none⟩)]) rfl h28 (enters_of Try.func28 (by kernel_rfl) rfl)
    (back_stops F (n - 1) h28 hro (by omega) (w.heap.size + 1 + 1 + 1) (w.heap.size + 4) a cap l W0 (by omega) (by omega) bN.cell hlw) belowK_t (belowK_b (by omega)) (Below.refl _ _) (fun _ => rfl)
    (fun pre W => ((((∀ p ∈ pre, p.2.1 ≠ v) ∧ Boxed W w.heap.size 3 (.int .i64 v)) ∧ Boxed W (w.heap.size + 1) 3 (.int .i64 0)) ∧ Boxed W (w.heap.size + 1 + 1) 4 (.bool false)) ∧ Below w.heap.size w W ∧ w.heap.size + 4 ≤ W.heap.size)
    (fun c pre W => (c = .ret ∧ ∃ ini last, pre = ini ++ [last] ∧ (∀ p ∈ ini, p.2.1 ≠ v) ∧ last.2.1 = v ∧ W.cell? ⟨w.heap.size + 1, 0, none⟩ = some (.int .i64 last.2.2) ∧ W.cell? ⟨w.heap.size + 1 + 1, 0, none⟩ = some (.bool true)) ∧ Below w.heap.size w W)
    (OwnFrom.and (Own.from (fun s A B row hs hg hr => ⟨⟨⟨hs.1.1.1, boxed_own _ _ (fun (_ : Unit) => Value.int .i64 v) () A B row hs.1.1.2 hg hr⟩, boxed_own _ _ (fun (_ : Unit) => Value.int .i64 0) () A B row hs.1.2 hg hr⟩, boxed_own _ _ (fun (_ : Unit) => Value.bool false) () A B row hs.2 hg hr⟩) _) (OwnFrom.and (ownFrom_below (Nat.le_refl _) (by omega)) (fun _ _ _ _ hs hg _ => Nat.le_trans hs hg.size)))
    (fun c => OwnFrom.and (Own.from (fun s A B row hs hg hr => by obtain ⟨hc, ini, last, e1, e2, e3, e4, e5⟩ := hs; exact ⟨hc, ini, last, e1, e2, e3, cell_kept e4 hg hr, cell_kept e5 hg hr⟩) _) (ownFrom_below (Nat.le_refl _) (by omega)))
    ⟨⟨⟨⟨by simp, bV⟩, b1⟩, b2⟩, hB0, by omega⟩
    (fun x a' W => ∃ Bx, w.heap.size + 1 + 1 < Bx ∧ W.cell? ⟨Bx, 0, none⟩ = some (.int .i64 x.2.1) ∧ W.cell? ⟨Bx, 1, none⟩ = some (.int .i64 x.2.2) ∧ a' = { tmps := #[.slice a l.length cap, .int .i64 v, undef, .pointer (some ⟨w.heap.size, 0, none⟩), .pointer (some ⟨w.heap.size + 1, 0, none⟩), .pointer (some ⟨w.heap.size + 1 + 1, 0, none⟩), undef, .pointer (some ⟨Bx, 0, none⟩), .slice a l.length cap, .func (.func 28) #[] #[.pointer (some ⟨w.heap.size + 1 + 1 + 1, 0, none⟩)], .int .i64 x.1, .agg #[.int .i64 x.2.1, .int .i64 x.2.2], undef, undef, undef, undef, undef, undef], defers := [] })
    (fun x a' _ X Y row hs hg hr => by obtain ⟨Bx, h1, h2, h3, h4⟩ := hs; exact ⟨Bx, h1, cell_kept h2 hg (fun r e => (hr r e).2), cell_kept h3 hg (fun r e => (hr r e).2), h4⟩)
    ?assign ?body ?done ?stop
  case assign =>
    rintro l' pre x W K ⟨⟨⟨⟨hp, bV1⟩, b11⟩, b21⟩, hB1, hS1⟩ hK
    gi_wp2
    exact hK _ _ ((KeepsOthers.alloc _ _).from _) ((Below.refl _ W).alloc hS1 _) ⟨⟨⟨⟨hp, bV1.alloc _⟩, b11.alloc _⟩, b21.alloc _⟩, hB1.alloc hB1.size _, by simp; omega⟩ ⟨W.heap.size, b21.lt, by go_simp, by go_simp, rfl⟩
  case body =>
    rintro l' pre x a' W hl' ⟨r, hr⟩ ⟨⟨⟨⟨hp, bV1⟩, b11⟩, b21⟩, hB1, hS1⟩ ⟨Bx, hBx, c0, c1, rfl⟩ hlt
    have cV := bV1.cell
    have cR1 := b11.cell
    have fR1 := b11.frozen
    have cR2 := b21.cell
    have fR2 := b21.frozen
    by_cases hv : x.2.1 = v
    · have hv1 : (x.2.1 == v) = true := by simpa using hv
      have Hv := hid hv
      clear hv
      gi_wp2
      exact ⟨((KeepsOthers.setCell _ _ _).trans (KeepsOthers.setCell _ _ _)).from _, ⟨rfl, pre, x, rfl, hp, Hv.out, by go_simp, by go_simp⟩, (hB1.setCell (p := ⟨w.heap.size + 1, 0, none⟩) (by simp) _).setCell (p := ⟨w.heap.size + 1 + 1, 0, none⟩) (by simp; omega) _⟩
    · have hv1 : (x.2.1 == v) = false := by simpa using hv
      have Hv := hid hv
      clear hv
      gi_wp2
      exact ⟨KeepsFrom.refl _ _, Below.refl _ _, ⟨⟨⟨⟨fun p hp' => (List.mem_append.1 hp').elim (hp p) (fun e => by simp at e; subst e; exact Hv.out), bV1⟩, b11⟩, b21⟩, hB1, hS1⟩⟩
  case done =>
    rintro D ys W hD rfl ⟨⟨⟨⟨hp, bV1⟩, b11⟩, b21⟩, hB1, hS1⟩ hK
    have hlk := hid (lookL_cut v l l.length (Nat.le_refl _) hp)
    have cR1 := b11.cell
    have fR1 := b11.frozen
    have cR2 := b21.cell
    have fR2 := b21.frozen
    clear hp
    gi_wp2
    have hK' := ((KeepsOthers.setCell W ⟨w.heap.size + 1, 0, none⟩ (.int .i64 0)).trans (KeepsOthers.setCell _ ⟨w.heap.size + 1 + 1, 0, none⟩ (.bool false))).same D _ hK rfl
    refine ⟨by simp, .inl ⟨_, _, rfl, run_takeDeferred hK', ?_⟩⟩
    have d1 : ((W.setCell ⟨w.heap.size + 1, 0, none⟩ (.int .i64 0)).setCell ⟨w.heap.size + 1 + 1, 0, none⟩ (.bool false)).cell? ⟨w.heap.size + 1, 0, none⟩ = some (.int .i64 0) := by go_simp
    have d2 : ((W.setCell ⟨w.heap.size + 1, 0, none⟩ (.int .i64 0)).setCell ⟨w.heap.size + 1 + 1, 0, none⟩ (.bool false)).cell? ⟨w.heap.size + 1 + 1, 0, none⟩ = some (.bool false) := by go_simp
    have hB2 := (hB1.setCell (p := ⟨w.heap.size + 1, 0, none⟩) (by simp) (.int .i64 0)).setCell (p := ⟨w.heap.size + 1 + 1, 0, none⟩) (by simp; omega) (.bool false)
    generalize World.setCell (World.setCell W _ _) _ _ = W2 at hK' d1 d2 hB2 ⊢
    have g1 := cell_kept d1 (grownBy_putObj' _ D (.deferred none)) (fun r e => by cases e; exact ⟨_, hK', rfl⟩)
    have g2 := cell_kept d2 (grownBy_putObj' _ D (.deferred none)) (fun r e => by cases e; exact ⟨_, hK', rfl⟩)
    have hfin : Hid (lookL v l = (0, false)) := by
      show _ = _
      rw [hlk.out, Nat.sub_self, List.take_zero, lookL_nil]
    refine ⟨.tuple #[.int .i64 0, .bool false], ?_, ⟨by rw [hfin.out], hB2.trans (belowK_b (w := w) (Nat.le_refl _) _ D _ _ (by omega) hK' rfl rfl)⟩⟩
    simp [results, Try.f11, go_sem, g1, g2]
  case stop =>
    rintro D c pre W hD ⟨k, hk, rfl⟩ ⟨⟨rfl, ini, last, e1, e2, e3, e4, e5⟩, hB1⟩ hK
    gi_wp2
    refine ⟨by simp, .inl ⟨_, _, rfl, run_takeDeferred hK, ?_⟩⟩
    have g1 := cell_kept e4 (grownBy_putObj' _ D (.deferred none)) (fun r e => by cases e; exact ⟨_, hK, rfl⟩)
    have g2 := cell_kept e5 (grownBy_putObj' _ D (.deferred none)) (fun r e => by cases e; exact ⟨_, hK, rfl⟩)
    obtain ⟨k', rfl⟩ : ∃ k', k = k' + 1 := by
      cases k with
      | zero => simp [upto] at e1
      | succ k' => exact ⟨k', rfl⟩
    rw [upto_succ] at e1
    obtain ⟨rfl, e6⟩ := List.append_inj' e1 rfl
    obtain rfl : bk l k' = last := by simpa using e6
    have hfin : Hid (lookL v l = ((bk l k').2.2, true)) := lookL_hit v l k' (by omega) e2 e3
    refine ⟨.tuple #[.int .i64 (bk l k').2.2, .bool true], ?_, ⟨by rw [hfin.out], hB1.trans (belowK_b (w := w) (Nat.le_refl _) _ D _ _ (by omega) hK rfl rfl)⟩⟩
    simp [results, Try.f11, go_sem, g1, g2]

theorem look_any (a : Option Addr) (n cap : Nat) (l : List (Int × Int)) (v : Int) (w : World) (hl : EnIn w (In_ w) a n cap l) :
    Calls Try.prog 11 #[.slice a n cap, .int .i64 v] w (LookPost w (lookL v l)) := by
  have hn := hl.1
  subst hn
  exact (callsIn_wide (n := 3)).1 (look_in Fence.wide 3 trivial trivial trivial rfl (Nat.le_refl _) a cap l v w hl)
end Go.Proofs.Ytjjdmhbljagokaa
