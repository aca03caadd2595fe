/- Put, with the blocks its answer lies in. -/
import Derived.Test.YtjjdmhbljagokaaBufE
namespace Go.Proofs.Ytjjdmhbljagokaa
open Go.RowKit

/-- The answer of Put: it lies where the buffer lay, or in new blocks. -/
def PutPostS (w : World) (S : Nat → Prop) (r : List (Int × Int) × Bool) (e : Ending) (w' : World) : Prop :=
  ∃ a cap, e = .returned (.tuple #[.slice a r.1.length cap, .bool r.2]) ∧ EnIn w' (fun b => S b ∨ w.heap.size ≤ b ∧ b < w'.heap.size) a r.1.length cap r.1 ∧ Below w.heap.size w w'
theorem Kp.size_ {W0 w : World} (h : Kp W0 w) : W0.heap.size ≤ w.heap.size := h.1.size
theorem own_base {w : World} {B B0 n : Nat} {T : TypeId} {sz : Nat} {v : Value} {cs : List Value} (h : w.ownsRow B T sz v n cs) (hb : B0 ≤ B) : ∃ B, B0 ≤ B ∧ w.ownsRow B T sz v n cs := ⟨B, hb, h⟩

set_option maxHeartbeats 2000000 in
theorem put_anyS (S : Nat → Prop) (a : Option Addr) (n cap : Nat) (l : List (Int × Int)) (m b v x : Int) (w : World) (hS : ∀ b, S b → b < w.heap.size) (hlS : EnIn w S a n cap l) (hlen : l.length ≤ 1000) :
    Calls Try.prog 10 #[.slice a n cap, .agg #[.int .i64 m, .int .i64 b], .agg #[.int .i64 v, .int .i64 x]] w (PutPostS w S (putL m b (v, x) l)) := by
  have hl : EnIn w (In_ w) a n cap l := hlS.widen hS
  have hn := hl.1
  subst hn
  have hcap := hl.2.le
  have hmx := hl.2.mx
  unfold maxLen at hmx
  go_enter Try.func10, Try.ntmps10
  go_wp2_with fail
  generalize hW : World.alloc (World.alloc w _) _ = W0
  have hB : Below w.heap.size w W0 := by subst hW; exact ((Below.refl _ _).alloc (Nat.le_refl _) _).alloc (by simp) _
  have z0 : w.heap.size < W0.heap.size := by subst hW; simp; omega
  have z1 : w.heap.size + 1 < W0.heap.size := by subst hW; simp
  have m0 : W0.cell? ⟨w.heap.size, 0, none⟩ = some (.int .i64 m) := by subst hW; go_simp
  have m1 : W0.cell? ⟨w.heap.size, 1, none⟩ = some (.int .i64 b) := by subst hW; go_simp
  have x0 : W0.cell? ⟨w.heap.size + 1, 0, none⟩ = some (.int .i64 v) := by subst hW; go_simp
  have x1 : W0.cell? ⟨w.heap.size + 1, 1, none⟩ = some (.int .i64 x) := by subst hW; go_simp
  clear hW
  have hl0 := (Kp.of hB).en hl
  have HB := hid hB
  clear hB
  go_loopw [8, 13] (fun c i wr => ∃ k : Nat, k ≤ l.length ∧ i = .int .i64 k ∧ c = .int .i64 (cnt m v (l.take k)) ∧ Kp W0 wr) (fun _ i _ => l.length - (intOf i).toNat)
  case atStart => exact ⟨0, Nat.zero_le _, rfl, rfl, Kp.refl _⟩
  case round =>
    obtain ⟨k, hk, rfl, rfl, hK⟩ := hrel
    have hc1 : cnt m v (l.take k) ≤ k := Nat.le_trans (cnt_le _ _ _) (List.length_take_le _ _)
    by_cases hlt : k < l.length
    · obtain ⟨bb, off, rfl, hbb, e0, e1⟩ := hl0.at_ k hlt
      have hts : Hid (cnt m v (l.take (k + 1)) = cnt m v (l.take k) + if m == 1 || l[k].1 == v then 1 else 0) := by
        show _ = _
        rw [List.take_succ_eq_append_getElem hlt, cnt_snoc]
      generalize hC : cnt m v (l.take k) = C at *
      clear hC
      have hbl := hbb.lt
      have k0 : (0 : Int) ≤ k := by omega
      have k1 : (k : Int) < l.length := by omega
      have g0 : w.heap.size < wr.heap.size := by have := hK.1.size; omega
      have g1 : w.heap.size + 1 < wr.heap.size := by have := hK.1.size; omega
      have g2 : bb < wr.heap.size := by have := hK.1.size; omega
      by_cases hm : m = 1
      · subst hm
        go_wp2_with fail
        go_roundw
        case rel => exact ⟨k + 1, by omega, by go_num, by rw [hts.out]; simp, hK.alloc _⟩
        case measure => simp [intOf]; omega
      · have hm1 : (m == 1) = false := by simpa using hm
        by_cases hv : l[k].1 = v
        · have hv1 : (l[k].1 == v) = true := by simpa using hv
          go_wp2_with fail
          go_roundw
          case rel => exact ⟨k + 1, by omega, by go_num, by rw [hts.out]; simp [hv1], hK.alloc _⟩
          case measure => simp [intOf]; omega
        · have hv1 : (l[k].1 == v) = false := by simpa using hv
          go_wp2_with fail
          go_roundw
          case rel => exact ⟨k + 1, by omega, by go_num, by rw [hts.out]; simp [hm1, hv1], hK.alloc _⟩
          case measure => simp [intOf]; omega
    · obtain rfl : k = l.length := by omega
      rw [List.take_length] at hc1
      simp only [List.take_length]
      have hput : putL m b (v, x) l = if b ≤ cnt m v l ∨ (m ≠ 1 ∧ m ≠ 2) then (l, false) else (l ++ [(v, x)], true) := rfl
      generalize hC : cnt m v l = C at *
      clear hC
      by_cases hno : b ≤ C ∨ (m ≠ 1 ∧ m ≠ 2)
      · rw [if_pos hno] at hput
        have Hput := hid hput
        clear hput
        have hfin : Hid (PutPostS w S (l, false) (.returned (.tuple #[.slice a l.length cap, .bool false])) wr) := ⟨a, cap, rfl, (hlS.keep fun b o hb => (Kp.of (Kp.fin HB.out hK)).2 b o (hS b hb)).widen fun _ h => .inl h, Kp.fin HB.out hK⟩
        clear hl hl0 hlS
        by_cases hb : b ≤ C
        · clear hno
          go_wp2_with fail
          go_ret2
          rw [Hput.out]
          exact hfin.out
        · have hb' : C < b := by omega
          have hm1 : (m != 1) = true := by rw [bne_iff_ne]; omega
          have hm2 : (m != 2) = true := by rw [bne_iff_ne]; omega
          clear hno
          go_wp2_with fail
          go_ret2
          rw [Hput.out]
          exact hfin.out
      · rw [if_neg hno] at hput
        have Hput := hid hput
        clear hput
        have hb : C < b := by omega
        have hm12 : m = 1 ∨ m = 2 := by omega
        clear hno
        have HL := hid hl0
        clear hl0 hl hlS
        have hmx2 : l.length ≤ maxLen := by unfold maxLen; omega
        rcases hm12 with rfl | rfl
        all_goals
          go_wp2_with fail
          go_region_held3 (Kp W0)
            (first | exact Kp.alloc (by assumption) _ | exact Kp.drew (by assumption) | assumption | exact hk1)
            (first
              | (go_at_call 20; (with_reducible refine (clip_any a l.length cap _ hcap (by unfold maxLen; exact hmx)).mono ?_); rintro e w1 ⟨rfl, rfl⟩)
              | (refine step_full (.tmp 46) (.tmp 48) a l v x ?_ ?_ ?_ ?_ ?_ ?_ ?_;
                 (focus rfl); (focus rfl); (focus rfl); (focus exact (Kp.en (by assumption) HL.out).src); (focus (first | exact ⟨_, _, rfl, src_new rfl⟩ | exact ⟨_, _, rfl, src_new_d rfl⟩)); (focus omega);
                 intro v2 w2 hown2 hg2;
                 have hk1 : Kp W0 w2 := Kp.grown (by assumption) hg2 (fun k hk => by cases hk);
                 have hown6 := own_base (B0 := w.heap.size) hown2 (Nat.le_trans HB.out.size (Kp.size_ (W0 := W0) (by assumption))))
              | fail)
          all_goals
            rename_i hKp
            obtain ⟨B, hBB, hown3⟩ : ∃ B, w.heap.size ≤ B ∧ w2.ownsRow B 26 2 v2 (l ++ [(v, x)]).length ((l ++ [(v, x)]).flatMap enC) := by
              obtain ⟨B, hBB, h⟩ := hown6
              exact ⟨B, hBB, by simpa [enC] using h⟩
            obtain ⟨a3, cap3, rfl, hen⟩ := EnIn.of_own hown3
            have hfin : Hid (PutPostS w S (l ++ [(v, x)], true) (.returned (.tuple #[.slice a3 (l ++ [(v, x)]).length cap3, .bool true])) w2) := ⟨a3, cap3, rfl, hen.widen fun b hb => .inr ⟨Nat.le_trans hBB hb.1, hb.2⟩, Kp.fin HB.out hKp⟩
            clear hown2 hown3 hown6 hen hg2 HL
            go_wp2_with fail
            go_ret2
            rw [Hput.out]
            exact hfin.out
end Go.Proofs.Ytjjdmhbljagokaa
