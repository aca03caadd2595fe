/- The program's Put. -/
import Derived.Test.YtekmcoflagajkaaDoorBufA
import Derived.Deep.RegionLawGrows
namespace Go.Proofs.YtekmcoflagajkaaDoor
open Go.RowKit

set_option maxHeartbeats 1000000 in
theorem clip_any (a : Option Addr) (n cap : Nat) (w : World) (hc : n ≤ cap) (_hm : cap ≤ maxLen) :
    Calls Tryd.prog 44 #[.slice a n cap] w fun e w' => e = .returned (.slice a n n) ∧ w' = w := by
  unfold maxLen at _hm
  go_enter Tryd.func44, Tryd.ntmps44
  cases a with
  | none =>
    go_wp2_with fail
    go_ret
    exact ⟨rfl, rfl⟩
  | some ad =>
    go_wp2_with fail
    go_ret
    exact ⟨rfl, rfl⟩

/-- append of stores onto a slice that is full, as a step of a region. -/
theorem step_full {ops : Array Oper} {o : Oper} {a : Act} {w : World} {K : Act → World → Prop} {Q : Exit → Act → World → Prop} {E : Prop} (s x : Operand) (ao : Option Addr) (l : List (Int × Int)) (p q : Int)
    (hgd : o.guard = none) (ho : o.op = .call { callee := .builtin .append, args := #[s, x], argTypes := #[49, 49] })
    (hsv : a.eval s = .slice ao l.length l.length) (hsrc : SrcAt w 2 ao l.length (l.flatMap enC)) (hx : ∃ ad c, a.eval x = .slice (some ad) 1 c ∧ SrcAt w 2 (some ad) 1 [.int .i64 p, .int .i64 q]) (hb : l.length ≤ 1000000)
    (h : ∀ v' w', w'.ownsRow w.heap.size 67 2 v' (l.length + 1) (l.flatMap enC ++ [.int .i64 p, .int .i64 q]) → w.grownBy w' none → K (a.put o.dst v') w') :
    if Region.wanted o (yielded ops a.tmps) = true then Oper.wp Tryd.prog o a w K Q else E := by
  obtain ⟨i0, hi, hz0, hz1, hz2⟩ := info_parts en_info
  obtain ⟨ad, c, hx, hc⟩ := hx
  refine step_append_grows hgd s x _ ho _ i0 _ 2 16 Tryd.underlying49 hi hz0 hz1 hz2 rfl (by decide) ao l.length l.length (l.flatMap enC) hsv (fun h0 => ?_) (EnIn.flat_length l) (fun b hb' => hsrc.2.2 b hb') ad 1 c [.int .i64 p, .int .i64 q] hx rfl (hc.2.2 ad rfl) one_cells (by omega) (by simp only [maxLen]; omega) (by omega) h
  have := hsrc.2.1 h0
  omega

set_option maxRecDepth 100000 in
set_option maxHeartbeats 4000000 in
theorem put_any (a : Option Addr) (n cap : Nat) (l : List (Int × Int)) (m b v x : Int) (w : World) (hl : EnIn w (In_ w) a n cap l) (hlen : l.length ≤ 1000) :
    Calls Tryd.prog 39 #[.slice a n cap, .agg #[.int .i64 m, .int .i64 b], .agg #[.int .i64 v, .int .i64 x]] w (PutPost w (putL m b (v, x) l)) := by
  have hn := hl.1
  subst hn
  have hcap := hl.2.le
  have hmx := hl.2.mx
  unfold maxLen at hmx
  go_enter Tryd.func39, Tryd.ntmps39
  go_wp2_with fail
  generalize hW : World.alloc (World.alloc w _) _ = W0
  have hB : Below w.heap.size w W0 := by subst hW; exact ((Below.refl _ _).alloc (Nat.le_refl _) _).alloc (by simp) _
  have z0 : w.heap.size < W0.heap.size := by subst hW; simp; omega
  have z1 : w.heap.size + 1 < W0.heap.size := by subst hW; simp
  have m0 : W0.cell? ⟨w.heap.size, 0, none⟩ = some (.int .i64 m) := by subst hW; go_simp
  have m1 : W0.cell? ⟨w.heap.size, 1, none⟩ = some (.int .i64 b) := by subst hW; go_simp
  have x0 : W0.cell? ⟨w.heap.size + 1, 0, none⟩ = some (.int .i64 v) := by subst hW; go_simp
  have x1 : W0.cell? ⟨w.heap.size + 1, 1, none⟩ = some (.int .i64 x) := by subst hW; go_simp
  clear hW
  have hl0 := (Kp.of hB).en hl
  have HB := hid hB
  clear hB
  go_loopw [8, 13] (fun c i wr => ∃ k : Nat, k ≤ l.length ∧ i = .int .i64 k ∧ c = .int .i64 (cnt m v (l.take k)) ∧ Kp W0 wr) (fun _ i _ => l.length - (intOf i).toNat)
  case atStart => exact ⟨0, Nat.zero_le _, rfl, rfl, Kp.refl _⟩
  case round =>
    obtain ⟨k, hk, rfl, rfl, hK⟩ := hrel
    have hc1 : cnt m v (l.take k) ≤ k := Nat.le_trans (cnt_le _ _ _) (List.length_take_le _ _)
    by_cases hlt : k < l.length
    · obtain ⟨bb, off, rfl, hbb, e0, e1⟩ := hl0.at_ k hlt
      have hts : Hid (cnt m v (l.take (k + 1)) = cnt m v (l.take k) + if m == 1 || l[k].1 == v then 1 else 0) := by
        show _ = _
        rw [List.take_succ_eq_append_getElem hlt, cnt_snoc]
      generalize hC : cnt m v (l.take k) = C at *
      clear hC
      have hbl := hbb.lt
      have k0 : (0 : Int) ≤ k := by omega
      have k1 : (k : Int) < l.length := by omega
      have g0 : w.heap.size < wr.heap.size := by have := hK.1.size; omega
      have g1 : w.heap.size + 1 < wr.heap.size := by have := hK.1.size; omega
      have g2 : bb < wr.heap.size := by have := hK.1.size; omega
      by_cases hm : m = 1
      · subst hm
        go_wp2_with fail
        go_roundw
        case rel => exact ⟨k + 1, by omega, by go_num, by rw [hts.out]; simp, hK.alloc _⟩
        case measure => simp [intOf]; omega
      · have hm1 : (m == 1) = false := by simpa using hm
        by_cases hv : l[k].1 = v
        · have hv1 : (l[k].1 == v) = true := by simpa using hv
          go_wp2_with fail
          go_roundw
          case rel => exact ⟨k + 1, by omega, by go_num, by rw [hts.out]; simp [hv1], hK.alloc _⟩
          case measure => simp [intOf]; omega
        · have hv1 : (l[k].1 == v) = false := by simpa using hv
          go_wp2_with fail
          go_roundw
          case rel => exact ⟨k + 1, by omega, by go_num, by rw [hts.out]; simp [hm1, hv1], hK.alloc _⟩
          case measure => simp [intOf]; omega
    · obtain rfl : k = l.length := by omega
      rw [List.take_length] at hc1
      simp only [List.take_length]
      have hput : putL m b (v, x) l = if b ≤ cnt m v l ∨ (m ≠ 1 ∧ m ≠ 2) then (l, false) else (l ++ [(v, x)], true) := rfl
      generalize hC : cnt m v l = C at *
      clear hC
      by_cases hno : b ≤ C ∨ (m ≠ 1 ∧ m ≠ 2)
      · rw [if_pos hno] at hput
        have Hput := hid hput
        clear hput
        have hfin : Hid (PutPost w (l, false) (.returned (.tuple #[.slice a l.length cap, .bool false])) wr) := ⟨a, cap, rfl, hK.en hl0, Kp.fin HB.out hK⟩
        clear hl hl0
        by_cases hb : b ≤ C
        · clear hno
          go_wp2_with fail
          go_ret2
          rw [Hput.out]
          exact hfin.out
        · have hb' : C < b := by omega
          have hm1 : (m != 1) = true := by rw [bne_iff_ne]; omega
          have hm2 : (m != 2) = true := by rw [bne_iff_ne]; omega
          clear hno
          go_wp2_with fail
          go_ret2
          rw [Hput.out]
          exact hfin.out
      · rw [if_neg hno] at hput
        have Hput := hid hput
        clear hput
        have hb : C < b := by omega
        have hm12 : m = 1 ∨ m = 2 := by omega
        clear hno
        have HL := hid hl0
        clear hl0 hl
        have hmx2 : l.length ≤ maxLen := by unfold maxLen; omega
        rcases hm12 with rfl | rfl
        all_goals
          go_wp2_with fail
          go_region_held3 (Kp W0)
            (first | exact Kp.alloc (by assumption) _ | exact Kp.drew (by assumption) | assumption | exact hk1)
            (first
              | (go_at_call 44; (with_reducible refine (clip_any a l.length cap _ hcap (by unfold maxLen; exact hmx)).mono ?_); rintro e w1 ⟨rfl, rfl⟩)
              | (refine step_full (.tmp 46) (.tmp 48) a l v x ?_ ?_ ?_ ?_ ?_ ?_ ?_;
                 (focus rfl); (focus rfl); (focus rfl); (focus exact (Kp.en (by assumption) HL.out).src); (focus (first | exact ⟨_, _, rfl, src_new rfl⟩ | exact ⟨_, _, rfl, src_new_d rfl⟩)); (focus omega);
                 intro v2 w2 hown2 hg2;
                 have hk1 : Kp W0 w2 := Kp.grown (by assumption) hg2 (fun k hk => by cases hk))
              | fail)
          all_goals
            rename_i hKp
            obtain ⟨B, hown3⟩ : ∃ B, w2.ownsRow B 67 2 v2 (l ++ [(v, x)]).length ((l ++ [(v, x)]).flatMap enC) := ⟨_, by simpa [enC] using hown2⟩
            obtain ⟨a3, cap3, rfl, hen⟩ := EnIn.of_own hown3
            have hfin : Hid (PutPost w (l ++ [(v, x)], true) (.returned (.tuple #[.slice a3 (l ++ [(v, x)]).length cap3, .bool true])) w2) := ⟨a3, cap3, rfl, hen.widen fun b hb => hb.2, Kp.fin HB.out hKp⟩
            clear hown2 hown3 hen hg2 HL
            go_wp2_with fail
            go_ret2
            rw [Hput.out]
            exact hfin.out
end Go.Proofs.YtekmcoflagajkaaDoor
