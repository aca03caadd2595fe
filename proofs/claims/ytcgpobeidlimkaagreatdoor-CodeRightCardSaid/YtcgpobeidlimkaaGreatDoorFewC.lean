/- Has code at most so many instructions and expressions? -/
import Derived.Test.YtcgpobeidlimkaaGreatDoorCodM
import Derived.Test.YtcgpobeidlimkaaGreatDoorKp
import Derived.Test.YtcgpobeidlimkaaGreatDoorStM
import Derived.Deep.RegionHeld3
import Derived.Deep.CutRange
namespace Go.Proofs.YtcgpobeidlimkaaGreatDoor
open Go.RowKit

def SizeC (x : Ex) : Prop := ∀ (most : Int) (cs : List Value) (w : World), 1 ≤ most → most ≤ 1000 → ExIn w (In_ w) cs x →
  Calls Tryz.prog 34 #[.agg cs.toArray, .int .i64 most] w fun e w' => ∃ r : Int, e = .returned (.int .i64 r) ∧ 1 ≤ r ∧ r ≤ most ∧ Below w.heap.size w w'

set_option maxRecDepth 100000 in
set_option maxHeartbeats 4000000 in
theorem size_step (k n o : Int) (l : List Ex) (ih : ∀ x, x ∈ l → SizeC x) : SizeC (.mk k n o l) := by
  intro most cs w hm1 hm2 hin
  obtain ⟨a, cap, rfl, hle, hmx, -, -, -, hk⟩ := hin.open_
  unfold maxLen at hmx
  generalize hW : w.alloc (.cells #[.int .i64 k, .int .i64 n, .int .u8 o, .slice a l.length cap] 46) = W0
  have hB : Below w.heap.size w W0 := by subst hW; exact (Below.refl _ _).alloc (Nat.le_refl _) _
  have z0 : w.heap.size < W0.heap.size := by subst hW; simp
  have c3 : W0.cell? ⟨w.heap.size, 3, none⟩ = some (.slice a l.length cap) := by subst hW; go_simp
  have Hk := hid hk
  have HB := hid hB
  have hKB : Kp w W0 := Kp.of hB
  have HKB := hid hKB
  have hWx := hid hW
  have Hih := hid ih
  clear hW hB hin hk hKB ih
  go_enter Tryz.func34, Tryz.ntmps34
  go_wp2_with fail
  rw [hWx.out]
  go_loopw [5, 6] (fun c i wr => ∃ (q : Nat) (m : Int), q ≤ l.length ∧ i = .int .i64 q ∧ c = .int .i64 m ∧ 1 ≤ m ∧ m ≤ most ∧ Kp W0 wr) (fun _ i _ => l.length - (intOf i).toNat)
  case atStart => exact ⟨0, 1, Nat.zero_le _, rfl, rfl, by omega, by omega, Kp.refl _⟩
  case round =>
    obtain ⟨q, m, hq, rfl, rfl, hm3, hm4, hK⟩ := hrel
    have g0 := hK.1.size
    have g4 : w.heap.size < wr.heap.size := by omega
    by_cases hlt : q < l.length
    · have q0 : (0 : Int) ≤ q := by omega
      have q1 : (q : Int) < l.length := by omega
      by_cases hmm : m < most
      · obtain ⟨b, off, u0, u1, u2, u3, rfl, hb, e0, e1, e2, e3, hx⟩ := Hk.out q hlt
        have hbl : b < w.heap.size := hb
        have hk2 := HKB.out
        rw [← hk2.2 _ _ hbl] at e0 e1 e2 e3
        have g3 : b < W0.heap.size := by omega
        have g5 : b < wr.heap.size := by omega
        have hw1 : IntKind.i64.wrap (most - m) = most - m := IntWalk.i64_in _ (by omega)
        have hcall := hid (Hih.out l[q] (List.getElem_mem hlt) (most - m) [u0, u1, u2, u3] wr (by omega) (by omega) (hK.ex (HKB.out.ex hx)))
        clear hx hk2
        go_wp2_with (first
          | (go_at_call 34
             with_reducible refine hcall.out.mono ?_
             rintro e w1 ⟨r, rfl, hr1, hr2, hb1⟩
             have HK1 := hid (hK.next hb1))
          | fail)
        go_roundw
        case rel => exact ⟨q + 1, m + r, by omega, by simp, by simp, by omega, by omega, HK1.out⟩
        case measure => simp [intOf]; omega
      · go_wp2_with fail
        go_ret
        exact ⟨m, rfl, hm3, hm4, Kp.fin HB.out hK⟩
    · obtain rfl : q = l.length := by omega
      go_wp2_with fail
      go_ret
      exact ⟨m, rfl, hm3, hm4, Kp.fin HB.out hK⟩
theorem size_any (x : Ex) : SizeC x := by
  induction x using Ex.ind with
  | h k n o l ih => exact size_step k n o l ih

/-- Some word, and nothing else. -/
def SomeB (w : World) (e : Ending) (w' : World) : Prop := ∃ b : Bool, e = .returned (.bool b) ∧ Below w.heap.size w w'

set_option maxRecDepth 100000 in
set_option maxHeartbeats 16000000 in
theorem fewC_any (vars dom : Int) (a : Option Addr) (nn cap : Nat) (t : List (List Ins)) (w : World) (hin : ThsIn w (In_ w) a nn cap t) (rt : t.length ≤ 140737488355328) (ri : ∀ l ∈ t, l.length ≤ 140737488355328) :
    Calls Tryz.prog 17 #[.agg #[.int .i64 vars, .int .i64 dom, .slice a nn cap]] w (SomeB w) := by
  have hn := hin.1
  subst hn
  have hcap := hin.le
  have hmx := hin.mx
  unfold maxLen at hmx
  generalize hW : w.alloc (.cells #[.int .i64 vars, .int .i64 dom, .slice a t.length cap] 30) = W0
  have hB : Below w.heap.size w W0 := by subst hW; exact (Below.refl _ _).alloc (Nat.le_refl _) _
  have z0 : w.heap.size < W0.heap.size := by subst hW; simp
  have c2 : W0.cell? ⟨w.heap.size, 2, none⟩ = some (.slice a t.length cap) := by subst hW; go_simp
  have Hin := hid ((Kp.of hB).ths hin)
  have HB := hid hB
  have hWx := hid hW
  have Hri := hid ri
  clear hW hB hin ri
  go_enter Tryz.func17, Tryz.ntmps17
  go_wp2_with fail
  rw [hWx.out]
  go_loopw [3, 4] (fun c i wr => ∃ (k : Nat) (m : Int), k ≤ t.length ∧ i = .int .i64 k ∧ c = .int .i64 m ∧ 0 ≤ m ∧ m ≤ 1125899906842624 ∧ Kp W0 wr) (fun _ i _ => t.length - (intOf i).toNat)
  case atStart => exact ⟨0, _, Nat.zero_le _, rfl, rfl, by omega, by omega, Kp.refl _⟩
  case round =>
    obtain ⟨k, m, hk, rfl, rfl, hm0, hm1, hK⟩ := hrel
    have g0 := hK.1.size
    have g4 : w.heap.size < wr.heap.size := by omega
    by_cases hlt : k < t.length
    case neg =>
      obtain rfl : k = t.length := by omega
      go_wp2_with fail
      go_ret
      exact ⟨_, rfl, Kp.fin HB.out hK⟩
    have k0 : (0 : Int) ≤ k := by omega
    have k1 : (k : Int) < t.length := by omega
    by_cases hmm : m < 1000
    case neg =>
      go_wp2_with fail
      go_ret
      exact ⟨_, rfl, Kp.fin HB.out hK⟩
    obtain ⟨bb, off, ar, kr, rfl, hbb, e0, hrow⟩ := Hin.out.at_ k hlt
    have hbl := hbb.lt
    have g3 : bb < wr.heap.size := by omega
    have hri := Hri.out t[k] (List.getElem_mem hlt)
    have hrc := hrow.le
    have hrm := hrow.mx
    unfold maxLen at hrm
    have hrow := hid hrow
    generalize t[k] = l at *
    go_wp2_with fail
    go_loopw [3, 5] (fun c i wr => ∃ (q : Nat) (m : Int), q ≤ l.length ∧ i = .int .i64 q ∧ c = .int .i64 m ∧ 0 ≤ m ∧ m ≤ 1125899906842624 ∧ Kp W0 wr) (fun _ i _ => l.length - (intOf i).toNat)
    case atStart => exact ⟨0, _, Nat.zero_le _, rfl, rfl, by omega, by omega, hK⟩
    case round =>
      clear hK g0 g3 g4 hm0 hm1 hmm
      obtain ⟨q, m, hq, rfl, rfl, hm0, hm1, hK⟩ := hrel
      have g0 := hK.1.size
      have g4 : w.heap.size < wr.heap.size := by omega
      have g3 : bb < wr.heap.size := by omega
      by_cases hlt2 : q < l.length
      case neg =>
        obtain rfl : q = l.length := by omega
        go_wp2_with fail
        go_roundw
        case rel => exact ⟨k + 1, m, by omega, by simp, rfl, hm0, hm1, hK⟩
        case measure => simp [intOf]; omega
      have q0 : (0 : Int) ≤ q := by omega
      have q1 : (q : Int) < l.length := by omega
      by_cases hmm : m < 1000
      case neg =>
        go_wp2_with fail
        go_roundw
        case rel => exact ⟨k + 1, m, by omega, by simp, rfl, hm0, hm1, hK⟩
        case measure => simp [intOf]; omega
      obtain ⟨b, off2, u0, u1, u2, u3, v0, v1, v2, v3, rfl, hb, ⟨f0, f1, f2⟩, ⟨f3, f4, f5, f6⟩, ⟨f7, f8, f9, f10⟩, f11, ha, hbx⟩ := hrow.out.at_ q hlt2
      have hb2 := hb.lt
      have g5 : b < wr.heap.size := by omega
      have hca : Hid (∀ W, Kp W0 W → Calls Tryz.prog 34 #[.agg #[u0, u1, u2, u3], .int .i64 1000] W fun e w' => ∃ r : Int, e = .returned (.int .i64 r) ∧ 1 ≤ r ∧ r ≤ 1000 ∧ Below W.heap.size W w') := fun W hW => size_any l[q].a 1000 [u0, u1, u2, u3] W (by omega) (by omega) (hW.ex ha)
      have hcb : Hid (∀ W, Kp W0 W → Calls Tryz.prog 34 #[.agg #[v0, v1, v2, v3], .int .i64 1000] W fun e w' => ∃ r : Int, e = .returned (.int .i64 r) ∧ 1 ≤ r ∧ r ≤ 1000 ∧ Below W.heap.size W w') := fun W hW => size_any l[q].b 1000 [v0, v1, v2, v3] W (by omega) (by omega) (hW.ex hbx)
      clear ha hbx
      go_wp2_with fail
      go_region_held3 (Kp W0)
        (first | exact Kp.drew hK | assumption)
        (first
          | (go_at_call 34
             with_reducible refine (hca.out _ ?_).mono ?_
             (focus assumption)
             rintro e w1 ⟨r1, rfl, hr1, hr2, hb1⟩
             have hw1 : IntKind.i64.wrap (m + r1) = m + r1 := IntWalk.i64_in _ (by omega)
             have hk1 : Kp W0 w1 := Kp.next (by assumption) hb1)
          | (go_at_call 34
             with_reducible refine (hcb.out _ ?_).mono ?_
             (focus assumption)
             rintro e w2 ⟨r2, rfl, hs1, hs2, hb2⟩
             have hw2 : IntKind.i64.wrap (m + r1 + r2) = m + r1 + r2 := IntWalk.i64_in _ (by omega)
             have hk2 : Kp W0 w2 := Kp.next (by assumption) hb2)
          | fail)
      have HK2 := hid hk2
      go_wp2_with fail
      go_roundw
      case rel => exact ⟨q + 1, m + r1 + r2, by omega, by simp, by go_num, by omega, by omega, HK2.out⟩
      case measure => simp [intOf]; omega
end Go.Proofs.YtcgpobeidlimkaaGreatDoor
