/- What is told of code: the program's words are the document's. -/
import Derived.Test.YtcgpobeidlimkaaGreatDoorFwd
import Derived.Deep.RegionHeld3
namespace Go.Proofs.YtcgpobeidlimkaaGreatDoor
open Go.RowKit

set_option maxRecDepth 100000 in
set_option maxHeartbeats 8000000 in
theorem told_any (vars dom : Int) (a : Option Addr) (n cap : Nat) (t : List (List Ins)) (w : World) (hin : ThsIn w (In_ w) a n cap t) :
    Calls Tryz.prog 16 #[.agg #[.int .i64 vars, .int .i64 dom, .slice a n cap]] w fun e w' => e = .returned (.bool true) ∧ Below w.heap.size w w' := by
  have hn := hin.1
  subst hn
  have hcap := hin.le
  have hmx := hin.mx
  unfold maxLen at hmx
  generalize hW : w.alloc (.cells #[.int .i64 vars, .int .i64 dom, .slice a t.length cap] 30) = W0
  have hB : Below w.heap.size w W0 := by subst hW; exact (Below.refl _ _).alloc (Nat.le_refl _) _
  have z0 : w.heap.size < W0.heap.size := by subst hW; simp
  have c0 : W0.cell? ⟨w.heap.size, 0, none⟩ = some (.int .i64 vars) := by subst hW; go_simp
  have c1 : W0.cell? ⟨w.heap.size, 1, none⟩ = some (.int .i64 dom) := by subst hW; go_simp
  have c2 : W0.cell? ⟨w.heap.size, 2, none⟩ = some (.slice a t.length cap) := by subst hW; go_simp
  have Hin := hid ((Kp.of hB).ths hin)
  have HB := hid hB
  have hWx := hid hW
  clear hW hB hin
  go_enter Tryz.func16, Tryz.ntmps16
  go_wp2_with fail
  rw [hWx.out]
  go_loopw [3] (fun i wr => ∃ k : Nat, k ≤ t.length ∧ i = .int .i64 k ∧ Kp W0 wr) (fun i _ => t.length - (intOf i).toNat)
  case atStart => exact ⟨0, Nat.zero_le _, rfl, Kp.refl _⟩
  case round =>
    obtain ⟨k, hk, rfl, hK⟩ := hrel
    by_cases hlt : k < t.length
    · obtain ⟨bb, off, ar, kr, rfl, hbb, e0, hrow⟩ := Hin.out.at_ k hlt
      have hbl := hbb.lt
      have k0 : (0 : Int) ≤ k := by omega
      have k1 : (k : Int) < t.length := by omega
      have g0 := hK.1.size
      have g3 : bb < wr.heap.size := by omega
      have g4 : w.heap.size < wr.heap.size := by omega
      have hp : Hid (∀ W, Kp W0 W → Calls Tryz.prog 24 #[.slice ar t[k].length kr] W fun e w' => e = .returned (.int .i64 (storesL t[k])) ∧ Below W.heap.size W w') := fun W hW => pstores_any t[k] ar kr W (hW.row hrow)
      have hr : Hid (∀ W, Kp W0 W → Calls Tryz.prog 31 #[.slice ar t[k].length kr] W fun e w' => e = .returned (.int .i64 (storesL t[k])) ∧ w' = W) := fun W hW => rstores_any t[k] ar kr W (hW.row hrow)
      clear hrow
      generalize t[k].length = tl at *
      generalize storesL t[k] = sl at *
      go_wp2_with fail
      go_region_held3 (Kp W0)
        (first | exact Kp.drew hK | assumption | exact Kp.next (by assumption) hb1)
        (first
          | (go_at_call 24
             with_reducible refine (hp.out _ ?_).mono ?_
             (focus assumption)
             rintro e w1 ⟨rfl, hb1⟩
             have hk1 : Kp W0 w1 := Kp.next (by assumption) hb1)
          | (go_at_call 31
             with_reducible refine (hr.out _ ?_).mono ?_
             (focus assumption)
             rintro e w2 ⟨rfl, rfl⟩)
          | fail)
      all_goals
        have HK := hk1
        go_wp2_with fail
        go_roundw
        case rel => exact ⟨k + 1, by omega, by simp, HK⟩
        case measure => simp [intOf]; omega
    · obtain rfl : k = t.length := by omega
      have g0 := hK.1.size
      have g4 : w.heap.size < wr.heap.size := by omega
      have h1 : Hid (∀ W, Kp W0 W → Calls Tryz.prog 21 #[.agg #[.int .i64 vars, .int .i64 dom, .slice a t.length cap]] W fun e w' => e = .returned (.bool (rightL vars dom t)) ∧ Below W.heap.size W w') := fun W hW => right_any vars dom a _ cap t W (hW.ths Hin.out)
      have h2 : Hid (∀ W, Kp W0 W → Calls Tryz.prog 32 #[.agg #[.int .i64 vars, .int .i64 dom, .slice a t.length cap]] W fun e w' => e = .returned (.bool (rightL vars dom t)) ∧ Below W.heap.size W w') := fun W hW => refRight_any vars dom a _ cap t W (hW.ths Hin.out)
      have h3 : Hid (∀ W, Kp W0 W → Calls Tryz.prog 22 #[.agg #[.int .i64 vars, .int .i64 dom, .slice a t.length cap]] W fun e w' => e = .returned (.bool (forwardL vars dom t)) ∧ Below W.heap.size W w') := fun W hW => pforward_any vars dom a _ cap t W (hW.ths Hin.out)
      have h4 : Hid (∀ W, Kp W0 W → Calls Tryz.prog 33 #[.agg #[.int .i64 vars, .int .i64 dom, .slice a t.length cap]] W fun e w' => e = .returned (.bool (forwardL vars dom t)) ∧ Below W.heap.size W w') := fun W hW => rforward_any vars dom a _ cap t W (hW.ths Hin.out)
      generalize rightL vars dom t = r at *
      generalize forwardL vars dom t = f at *
      have hrr : (r == r) = true := by cases r <;> rfl
      go_wp2_with fail
      go_region_held3 (Kp W0)
        (first | exact Kp.drew hK | assumption)
        (first
          | (go_at_call 21
             with_reducible refine (h1.out _ ?_).mono ?_
             (focus assumption)
             rintro e w1 ⟨rfl, hb1⟩
             have hk1 : Kp W0 w1 := Kp.next (by assumption) hb1)
          | (go_at_call 32
             with_reducible refine (h2.out _ ?_).mono ?_
             (focus assumption)
             rintro e w2 ⟨rfl, hb2⟩
             have hk2 : Kp W0 w2 := Kp.next (by assumption) hb2)
          | (go_at_call 22
             with_reducible refine (h3.out _ ?_).mono ?_
             (focus assumption)
             rintro e w3 ⟨rfl, hb3⟩
             have hk3 : Kp W0 w3 := Kp.next (by assumption) hb3)
          | (go_at_call 33
             with_reducible refine (h4.out _ ?_).mono ?_
             (focus assumption)
             rintro e w4 ⟨rfl, hb4⟩
             have hk4 : Kp W0 w4 := Kp.next (by assumption) hb4)
          | fail)
      all_goals
        go_wp2_with fail
        go_ret
        first
          | exact ⟨ret_bool (by cases f <;> rfl), Kp.fin HB.out hk4⟩
          | exact ⟨ret_bool (by cases f <;> rfl), Kp.fin HB.out hk3⟩
end Go.Proofs.YtcgpobeidlimkaaGreatDoor
