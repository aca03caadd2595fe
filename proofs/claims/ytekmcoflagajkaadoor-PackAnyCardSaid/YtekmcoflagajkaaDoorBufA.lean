/- The document's Put, Look, Take, Same. -/
import Derived.Test.YtekmcoflagajkaaDoorRows
import Derived.Test.YtekmcoflagajkaaDoorEnt
import Derived.Test.YtekmcoflagajkaaDoorApp
import Derived.Test.YtekmcoflagajkaaDoorKp
import Derived.Deep.QuietTactic
import Derived.BigQuiet
namespace Go.Proofs.YtekmcoflagajkaaDoor
open Go.RowKit

theorem EnIn.src {w : World} {S : Nat → Prop} {a : Option Addr} {n cap : Nat} {l : List (Int × Int)} (h : EnIn w S a n cap l) : SrcAt w 2 a n (l.flatMap enC) := by
  refine ⟨by rw [h.1]; exact EnIn.flat_length l, fun ha => ?_, h.flat⟩
  rw [h.1]
  rcases Nat.eq_zero_or_pos l.length with h0 | h0
  · exact h0
  · obtain ⟨b, off, hb, _⟩ := h.2.at_ h0
    rw [ha] at hb
    cases hb

theorem en_info : (Tryd.prog.info? 67).map (fun i => (i.zero, i.size, i.bytes)) = some (some (.agg #[.int .i64 0, .int .i64 0]), 2, 16) := by kernel_rfl

/-- append of stores onto a row of the call's own, as a step of a region. -/
theorem step_en {ops : Array Oper} {o : Oper} {a : Act} {w : World} {base : Nat} {K : Act → World → Prop} {Q : Exit → Act → World → Prop} {E : Prop} (s x : Operand) (v : Value) (n : Nat) (xs : List Value) (m : Nat) (news : List Value)
    (hgd : o.guard = none) (ho : o.op = .call { callee := .builtin .append, args := #[s, x], argTypes := #[49, 49] })
    (hsv : a.eval s = v) (hown : w.ownsRow base 67 2 v n xs) (hsrc : ∃ A c, a.eval x = .slice A m c ∧ SrcAt w 2 A m news) (h1 : ∀ u ∈ news, u.oneCell' = true) (hb : n + m ≤ 1000000) (hbase : base ≤ w.heap.size)
    (h : ∀ v' w', w'.ownsRow base 67 2 v' (n + m) (xs ++ news) → w.grownBy w' v.ownBlock → (v'.ownBlock = v.ownBlock ∨ v'.ownBlock = some w.heap.size) → K (a.put o.dst v') w') :
    if Region.wanted o (yielded ops a.tmps) = true then Oper.wp Tryd.prog o a w K Q else E := by
  obtain ⟨i0, hi, hz0, hz1, hz2⟩ := info_parts en_info
  exact step_app hgd s x ho Tryd.underlying49 hi hz0 hz1 hz2 rfl (by decide) v n xs hsv hown m news hsrc h1 (by simp only [maxLen]; omega) (by omega) hbase h
theorem list_en {ops : Array Oper} {rest : List Oper} {o : Oper} {a : Act} {w : World} {base : Nat} {Q : Exit → Act → World → Prop} (s x : Operand) (v : Value) (n : Nat) (xs : List Value) (m : Nat) (news : List Value)
    (hgd : o.guard = none) (ho : o.op = .call { callee := .builtin .append, args := #[s, x], argTypes := #[49, 49] })
    (hsv : a.eval s = v) (hown : w.ownsRow base 67 2 v n xs) (hsrc : ∃ A c, a.eval x = .slice A m c ∧ SrcAt w 2 A m news) (h1 : ∀ u ∈ news, u.oneCell' = true) (hb : n + m ≤ 1000000) (hbase : base ≤ w.heap.size)
    (h : ∀ v' w', w'.ownsRow base 67 2 v' (n + m) (xs ++ news) → w.grownBy w' v.ownBlock → (v'.ownBlock = v.ownBlock ∨ v'.ownBlock = some w.heap.size) → wpList Tryd.prog ops Q rest (a.put o.dst v') w') :
    wpList Tryd.prog ops Q (o :: rest) a w := by
  obtain ⟨i0, hi, hz0, hz1, hz2⟩ := info_parts en_info
  exact list_app hgd s x ho Tryd.underlying49 hi hz0 hz1 hz2 rfl (by decide) v n xs hsv hown m news hsrc h1 (by simp only [maxLen]; omega) (by omega) hbase h
theorem one_cells {p q : Int} : ∀ u ∈ [Value.int .i64 p, Value.int .i64 q], u.oneCell' = true := by
  intro u hu
  simp at hu
  rcases hu with rfl | rfl <;> rfl

/-- How many stores a new one has to do with. -/
def cnt (m v : Int) (l : List (Int × Int)) : Nat := (l.filter fun y => m == 1 || y.1 == v).length
theorem cnt_snoc (m v : Int) (l : List (Int × Int)) (y : Int × Int) : cnt m v (l ++ [y]) = cnt m v l + if m == 1 || y.1 == v then 1 else 0 := by
  unfold cnt
  rw [List.filter_append]
  by_cases h : (m == 1 || y.1 == v) = true
  · simp [h]
  · simp [h]
theorem cnt_le (m v : Int) (l : List (Int × Int)) : cnt m v l ≤ l.length := List.length_filter_le _ _
/-- A buffer with a store more, and whether there was room. -/
def putL (m b : Int) (x : Int × Int) (l : List (Int × Int)) : List (Int × Int) × Bool :=
  if b ≤ cnt m x.1 l ∨ (m ≠ 1 ∧ m ≠ 2) then (l, false) else (l ++ [x], true)

def PutPost (w : World) (r : List (Int × Int) × Bool) (e : Ending) (w' : World) : Prop :=
  ∃ a cap, e = .returned (.tuple #[.slice a r.1.length cap, .bool r.2]) ∧ EnIn w' (In_ w') a r.1.length cap r.1 ∧ Below w.heap.size w w'


set_option maxHeartbeats 2000000 in
theorem refPut_any (a : Option Addr) (n cap : Nat) (l : List (Int × Int)) (m b v x : Int) (w : World) (hl : EnIn w (In_ w) a n cap l) (hlen : l.length ≤ 1000) :
    Calls Tryd.prog 34 #[.slice a n cap, .agg #[.int .i64 m, .int .i64 b], .agg #[.int .i64 v, .int .i64 x]] w (PutPost w (putL m b (v, x) l)) := by
  have hn := hl.1
  subst hn
  have hcap := hl.2.le
  have hmx := hl.2.mx
  unfold maxLen at hmx
  go_enter Tryd.func34, Tryd.ntmps34
  go_wp2_with fail
  generalize hW : World.alloc (World.alloc w _) _ = W0
  have hB : Below w.heap.size w W0 := by subst hW; exact ((Below.refl _ _).alloc (Nat.le_refl _) _).alloc (by simp) _
  have z0 : w.heap.size < W0.heap.size := by subst hW; simp; omega
  have z1 : w.heap.size + 1 < W0.heap.size := by subst hW; simp
  have m0 : W0.cell? ⟨w.heap.size, 0, none⟩ = some (.int .i64 m) := by subst hW; go_simp
  have m1 : W0.cell? ⟨w.heap.size, 1, none⟩ = some (.int .i64 b) := by subst hW; go_simp
  have x0 : W0.cell? ⟨w.heap.size + 1, 0, none⟩ = some (.int .i64 v) := by subst hW; go_simp
  have x1 : W0.cell? ⟨w.heap.size + 1, 1, none⟩ = some (.int .i64 x) := by subst hW; go_simp
  clear hW
  have hl0 := (Kp.of hB).en hl
  have HB := hid hB
  clear hB
  go_loopw [8, 9] (fun c i wr => ∃ k : Nat, k ≤ l.length ∧ i = .int .i64 k ∧ c = .int .i64 (cnt m v (l.take k)) ∧ Kp W0 wr) (fun _ i _ => l.length - (intOf i).toNat)
  case atStart => exact ⟨0, Nat.zero_le _, rfl, rfl, Kp.refl _⟩
  case round =>
    obtain ⟨k, hk, rfl, rfl, hK⟩ := hrel
    have hc1 : cnt m v (l.take k) ≤ k := Nat.le_trans (cnt_le _ _ _) (List.length_take_le _ _)
    by_cases hlt : k < l.length
    · obtain ⟨bb, off, rfl, hbb, e0, e1⟩ := hl0.at_ k hlt
      have hts : Hid (cnt m v (l.take (k + 1)) = cnt m v (l.take k) + if m == 1 || l[k].1 == v then 1 else 0) := by
        show _ = _
        rw [List.take_succ_eq_append_getElem hlt, cnt_snoc]
      generalize hC : cnt m v (l.take k) = C at *
      clear hC
      have hbl := hbb.lt
      have k0 : (0 : Int) ≤ k := by omega
      have k1 : (k : Int) < l.length := by omega
      by_cases hm : m = 1
      · subst hm
        go_wp2_with fail
        go_quiet (fail)
        go_wp2_with fail
        go_roundw
        case rel => exact ⟨k + 1, by omega, by go_num, by rw [hts.out]; simp, drewN_kp hK nq⟩
        case measure => simp [intOf]; omega
      · have hm1 : (m == 1) = false := by simpa using hm
        by_cases hv : l[k].1 = v
        · have hv1 : (l[k].1 == v) = true := by simpa using hv
          go_wp2_with fail
          go_quiet (fail)
          go_wp2_with fail
          go_roundw
          case rel => exact ⟨k + 1, by omega, by go_num, by rw [hts.out]; simp [hv1], drewN_kp hK nq⟩
          case measure => simp [intOf]; omega
        · have hv1 : (l[k].1 == v) = false := by simpa using hv
          go_wp2_with fail
          go_quiet (fail)
          go_wp2_with fail
          go_roundw
          case rel => exact ⟨k + 1, by omega, by go_num, by rw [hts.out]; simp [hm1, hv1], drewN_kp hK nq⟩
          case measure => simp [intOf]; omega
    · obtain rfl : k = l.length := by omega
      rw [List.take_length] at hc1
      simp only [List.take_length]
      have hput : putL m b (v, x) l = if b ≤ cnt m v l ∨ (m ≠ 1 ∧ m ≠ 2) then (l, false) else (l ++ [(v, x)], true) := rfl
      generalize hC : cnt m v l = C at *
      clear hC
      by_cases hno : b ≤ C ∨ (m ≠ 1 ∧ m ≠ 2)
      · rw [if_pos hno] at hput
        have Hput := hid hput
        clear hput
        have hfin : Hid (PutPost w (l, false) (.returned (.tuple #[.slice a l.length cap, .bool false])) wr) := ⟨a, cap, rfl, hK.en hl0, Kp.fin HB.out hK⟩
        clear hl hl0
        by_cases hm1 : m = 1
        · subst hm1
          have hb : b ≤ C := by omega
          clear hno
          go_wp2_with fail
          go_ret2
          rw [Hput.out]
          exact hfin.out
        · have hm1' : (m != 1) = true := by rw [bne_iff_ne]; exact hm1
          by_cases hm2 : m = 2
          · subst hm2
            have hb : b ≤ C := by omega
            clear hno
            go_wp2_with fail
            go_ret2
            rw [Hput.out]
            exact hfin.out
          · have hm2' : (m != 2) = true := by rw [bne_iff_ne]; exact hm2
            clear hno
            go_wp2_with fail
            go_ret2
            rw [Hput.out]
            exact hfin.out
      · rw [if_neg hno] at hput
        have Hput := hid hput
        clear hput
        have hb : C < b := by omega
        have hm12 : m = 1 ∨ m = 2 := by omega
        clear hno
        have hlr := hK.en hl0
        have HL := hid hl0
        clear hl0 hl
        rcases hm12 with rfl | rfl
        all_goals
          go_wp2_with fail
          go_region_held3 (Kp W0)
            (first | exact Kp.alloc (by assumption) _ | exact Kp.drew (by assumption) | exact hk1)
            (first
              | (refine step_en (base := W0.heap.size) (.const (.slice none 0 0)) (.tmp 46) (.slice none 0 0) 0 [] l.length (l.flatMap enC) ?_ ?_ ?_ ?_ ?_ ?_ ?_ ?_ ?_;
                 (focus rfl); (focus rfl); (focus rfl); (focus exact World.ownsRow_nil _ _ _ _); (focus exact ⟨_, _, rfl, (Kp.en (by assumption) HL.out).src⟩); (focus exact enC_one l); (focus omega); (focus exact (by assumption : Kp W0 _).1.size);
                 intro v1 w1 hown1 hg1 hat1;
                 have hk1 : Kp W0 w1 := Kp.grown (by assumption) hg1 (by simp [Value.ownBlock]))
              | (refine step_en (base := W0.heap.size) (.tmp 47) (.tmp 49) v1 (0 + l.length) ([] ++ l.flatMap enC) 1 [.int .i64 v, .int .i64 x] ?_ ?_ ?_ ?_ ?_ ?_ ?_ ?_ ?_;
                 (focus rfl); (focus rfl); (focus rfl); (focus (first | exact hown1 | exact hown1.alloc _)); (focus (first | exact ⟨_, _, rfl, src_new rfl⟩ | exact ⟨_, _, rfl, (src_new_d rfl).grown hg1 (.inl rfl)⟩)); (focus exact one_cells);
                 (focus omega); (focus exact (by assumption : Kp W0 _).1.size);
                 intro v2 w2 hown2 hg2 hat2;
                 have hk1 : Kp W0 w2 := Kp.grown (by assumption) hg2 (fun k hk => (hown1.lt k hk).1))
              | fail)
          all_goals
            rename_i hKp
            have hown3 : w2.ownsRow W0.heap.size 67 2 v2 (l ++ [(v, x)]).length ((l ++ [(v, x)]).flatMap enC) := by simpa [enC] using hown2
            obtain ⟨a3, cap3, rfl, hen⟩ := EnIn.of_own hown3
            have hfin : Hid (PutPost w (l ++ [(v, x)], true) (.returned (.tuple #[.slice a3 (l ++ [(v, x)]).length cap3, .bool true])) w2) := ⟨a3, cap3, rfl, hen.widen fun b hb => hb.2, Kp.fin HB.out hKp⟩
            clear hown1 hown2 hown3 hen hg1 hg2 HL hlr
            go_wp2_with fail
            go_ret2
            rw [Hput.out]
            exact hfin.out
end Go.Proofs.YtekmcoflagajkaaDoor
