/- Has code at most so many instructions and expressions? -/
import Derived.Test.YtcgpobeidlimkaaGreatDoorBunS
import Derived.Test.YtcgpobeidlimkaaGreatDoorBunM
import Derived.Deep.RegionHeld3
import Derived.Deep.CutRange
import Derived.Test.YtcgpobeidlimkaaGreatDoorBunN
namespace Go.Proofs.YtcgpobeidlimkaaGreatDoor
open Go.RowKit

def SizeC (x : Ex) : Prop := ∀ (most : Int) (cs : List Value) (w : World), 1 ≤ most → most ≤ 1000 → ExIn w (In_ w) cs x →
  Calls Tryz.prog 34 #[.agg cs.toArray, .int .i64 most] w fun e w' => ∃ r : Int, e = .returned (.int .i64 r) ∧ 1 ≤ r ∧ r ≤ most ∧ Below w.heap.size w w'

set_option maxRecDepth 100000 in
set_option maxHeartbeats 4000000 in
theorem size_step (k n o : Int) (l : List Ex) (ih : ∀ x, x ∈ l → SizeC x) : SizeC (.mk k n o l) := by
  intro most cs w hm1 hm2 hin
  obtain ⟨a, cap, rfl, hle, hmx, -, -, -, hk⟩ := hin.open_
  unfold maxLen at hmx
  generalize hW : w.alloc (.cells #[.int .i64 k, .int .i64 n, .int .u8 o, .slice a l.length cap] 46) = W0
  have hB : Below w.heap.size w W0 := by subst hW; exact (Below.refl _ _).alloc (Nat.le_refl _) _
  have z0 : w.heap.size < W0.heap.size := by subst hW; simp
  have c3 : W0.cell? ⟨w.heap.size, 3, none⟩ = some (.slice a l.length cap) := by subst hW; go_simp
  have Hk := hid hk
  have HB := hid hB
  have hKB : Kp w W0 := Kp.of hB
  have HKB := hid hKB
  have hWx := hid hW
  have Hih := hid ih
  clear hW hB hin hk hKB ih
  go_enter Tryz.func34, Tryz.ntmps34
  go_wp2_with fail
  rw [hWx.out]
  go_loopw [5, 6] (fun c i wr => ∃ (q : Nat) (m : Int), q ≤ l.length ∧ i = .int .i64 q ∧ c = .int .i64 m ∧ 1 ≤ m ∧ m ≤ most ∧ Kp W0 wr) (fun _ i _ => l.length - (intOf i).toNat)
  case atStart => exact ⟨0, 1, Nat.zero_le _, rfl, rfl, by omega, by omega, Kp.refl _⟩
  case round =>
    obtain ⟨q, m, hq, rfl, rfl, hm3, hm4, hK⟩ := hrel
    have g0 := hK.1.size
    have g4 : w.heap.size < wr.heap.size := by omega
    by_cases hlt : q < l.length
    · have q0 : (0 : Int) ≤ q := by omega
      have q1 : (q : Int) < l.length := by omega
      by_cases hmm : m < most
      · obtain ⟨b, off, u0, u1, u2, u3, rfl, hb, e0, e1, e2, e3, hx⟩ := Hk.out q hlt
        have hbl : b < w.heap.size := hb
        have hk2 := HKB.out
        rw [← hk2.2 _ _ hbl] at e0 e1 e2 e3
        have g3 : b < W0.heap.size := by omega
        have g5 : b < wr.heap.size := by omega
        have hw1 : IntKind.i64.wrap (most - m) = most - m := IntWalk.i64_in _ (by omega)
        have hcall := hid (Hih.out l[q] (List.getElem_mem hlt) (most - m) [u0, u1, u2, u3] wr (by omega) (by omega) (hK.ex (HKB.out.ex hx)))
        clear hx hk2
        go_wp2_with (first
          | (go_at_call 34
             with_reducible refine hcall.out.mono ?_
             rintro e w1 ⟨r, rfl, hr1, hr2, hb1⟩
             have HK1 := hid (hK.next hb1))
          | fail)
        go_roundw
        case rel => exact ⟨q + 1, m + r, by omega, by simp, by simp, by omega, by omega, HK1.out⟩
        case measure => simp [intOf]; omega
      · go_wp2_with fail
        go_ret
        exact ⟨m, rfl, hm3, hm4, Kp.fin HB.out hK⟩
    · obtain rfl : q = l.length := by omega
      go_wp2_with fail
      go_ret
      exact ⟨m, rfl, hm3, hm4, Kp.fin HB.out hK⟩
theorem size_any (x : Ex) : SizeC x := by
  induction x using Ex.ind with
  | h k n o l ih => exact size_step k n o l ih

/-- Some word, and nothing else. -/
def SomeB (w : World) (e : Ending) (w' : World) : Prop := ∃ b : Bool, e = .returned (.bool b) ∧ Below w.heap.size w w'

set_option maxRecDepth 100000 in
set_option maxHeartbeats 16000000 in
theorem fewC_any (vars dom : Int) (a : Option Addr) (nn cap : Nat) (t : List (List Ins)) (w : World) (hin : ThsIn w (In_ w) a nn cap t) (rt : t.length ≤ 140737488355328) (ri : ∀ l ∈ t, l.length ≤ 140737488355328) :
    Calls Tryz.prog 17 #[.agg #[.int .i64 vars, .int .i64 dom, .slice a nn cap]] w (SomeB w) := by
  have hn := hin.1
  subst hn
  have hcap := hin.le
  have hmx := hin.mx
  unfold maxLen at hmx
  generalize hW : w.alloc (.cells #[.int .i64 vars, .int .i64 dom, .slice a t.length cap] 30) = W0
  have hB : Below w.heap.size w W0 := by subst hW; exact (Below.refl _ _).alloc (Nat.le_refl _) _
  have z0 : w.heap.size < W0.heap.size := by subst hW; simp
  have c2 : W0.cell? ⟨w.heap.size, 2, none⟩ = some (.slice a t.length cap) := by subst hW; go_simp
  have Hin := hid ((Kp.of hB).ths hin)
  have HB := hid hB
  have hWx := hid hW
  have Hri := hid ri
  clear hW hB hin ri
  go_enter Tryz.func17, Tryz.ntmps17
  go_wp2_with fail
  rw [hWx.out]
  go_loopw [3, 4] (fun c i wr => ∃ (k : Nat) (m : Int), k ≤ t.length ∧ i = .int .i64 k ∧ c = .int .i64 m ∧ 0 ≤ m ∧ m ≤ 1125899906842624 ∧ Kp W0 wr) (fun _ i _ => t.length - (intOf i).toNat)
  case atStart => exact ⟨0, _, Nat.zero_le _, rfl, rfl, by omega, by omega, Kp.refl _⟩
  case round =>
    obtain ⟨k, m, hk, rfl, rfl, hm0, hm1, hK⟩ := hrel
    have g0 := hK.1.size
    have g4 : w.heap.size < wr.heap.size := by omega
    by_cases hlt : k < t.length
    case neg =>
      obtain rfl : k = t.length := by omega
      go_wp2_with fail
      go_ret
      exact ⟨_, rfl, Kp.fin HB.out hK⟩
    have k0 : (0 : Int) ≤ k := by omega
    have k1 : (k : Int) < t.length := by omega
    by_cases hmm : m < 1000
    case neg =>
      go_wp2_with fail
      go_ret
      exact ⟨_, rfl, Kp.fin HB.out hK⟩
    obtain ⟨bb, off, ar, kr, rfl, hbb, e0, hrow⟩ := Hin.out.at_ k hlt
    have hbl := hbb.lt
    have g3 : bb < wr.heap.size := by omega
    have hri := Hri.out t[k] (List.getElem_mem hlt)
    have hrc := hrow.le
    have hrm := hrow.mx
    unfold maxLen at hrm
    have hrow := hid hrow
    generalize t[k] = l at *
    go_wp2_with fail
    go_loopw [3, 5] (fun c i wr => ∃ (q : Nat) (m : Int), q ≤ l.length ∧ i = .int .i64 q ∧ c = .int .i64 m ∧ 0 ≤ m ∧ m ≤ 1125899906842624 ∧ Kp W0 wr) (fun _ i _ => l.length - (intOf i).toNat)
    case atStart => exact ⟨0, _, Nat.zero_le _, rfl, rfl, by omega, by omega, hK⟩
    case round =>
      clear hK g0 g3 g4 hm0 hm1 hmm
      obtain ⟨q, m, hq, rfl, rfl, hm0, hm1, hK⟩ := hrel
      have g0 := hK.1.size
      have g4 : w.heap.size < wr.heap.size := by omega
      have g3 : bb < wr.heap.size := by omega
      by_cases hlt2 : q < l.length
      case neg =>
        obtain rfl : q = l.length := by omega
        go_wp2_with fail
        go_roundw
        case rel => exact ⟨k + 1, m, by omega, by simp, rfl, hm0, hm1, hK⟩
        case measure => simp [intOf]; omega
      have q0 : (0 : Int) ≤ q := by omega
      have q1 : (q : Int) < l.length := by omega
      by_cases hmm : m < 1000
      case neg =>
        go_wp2_with fail
        go_roundw
        case rel => exact ⟨k + 1, m, by omega, by simp, rfl, hm0, hm1, hK⟩
        case measure => simp [intOf]; omega
      obtain ⟨b, off2, u0, u1, u2, u3, v0, v1, v2, v3, rfl, hb, ⟨f0, f1, f2⟩, ⟨f3, f4, f5, f6⟩, ⟨f7, f8, f9, f10⟩, f11, ha, hbx⟩ := hrow.out.at_ q hlt2
      have hb2 := hb.lt
      have g5 : b < wr.heap.size := by omega
      have hca : Hid (∀ W, Kp W0 W → Calls Tryz.prog 34 #[.agg #[u0, u1, u2, u3], .int .i64 1000] W fun e w' => ∃ r : Int, e = .returned (.int .i64 r) ∧ 1 ≤ r ∧ r ≤ 1000 ∧ Below W.heap.size W w') := fun W hW => size_any l[q].a 1000 [u0, u1, u2, u3] W (by omega) (by omega) (hW.ex ha)
      have hcb : Hid (∀ W, Kp W0 W → Calls Tryz.prog 34 #[.agg #[v0, v1, v2, v3], .int .i64 1000] W fun e w' => ∃ r : Int, e = .returned (.int .i64 r) ∧ 1 ≤ r ∧ r ≤ 1000 ∧ Below W.heap.size W w') := fun W hW => size_any l[q].b 1000 [v0, v1, v2, v3] W (by omega) (by omega) (hW.ex hbx)
      clear ha hbx
      go_wp2_with fail
      go_region_held3 (Kp W0)
        (first | exact Kp.drew hK | assumption)
        (first
          | (go_at_call 34
             with_reducible refine (hca.out _ ?_).mono ?_
             (focus assumption)
             rintro e w1 ⟨r1, rfl, hr1, hr2, hb1⟩
             have hw1 : IntKind.i64.wrap (m + r1) = m + r1 := IntWalk.i64_in _ (by omega)
             have hk1 : Kp W0 w1 := Kp.next (by assumption) hb1)
          | (go_at_call 34
             with_reducible refine (hcb.out _ ?_).mono ?_
             (focus assumption)
             rintro e w2 ⟨r2, rfl, hs1, hs2, hb2⟩
             have hw2 : IntKind.i64.wrap (m + r1 + r2) = m + r1 + r2 := IntWalk.i64_in _ (by omega)
             have hk2 : Kp W0 w2 := Kp.next (by assumption) hb2)
          | fail)
      have HK2 := hid hk2
      go_wp2_with fail
      go_roundw
      case rel => exact ⟨q + 1, m + r1 + r2, by omega, by simp, by go_num, by omega, by omega, HK2.out⟩
      case measure => simp [intOf]; omega
end Go.Proofs.YtcgpobeidlimkaaGreatDoor
namespace Go.Proofs.YtcgpobeidlimkaaGreatDoor
open Go.RowKit

def BigC (x : Ex) : Prop := ∀ (most : Int) (cs : List Value) (w : World), -10 ≤ most → most ≤ 2000 → ExIn w (In_ w) cs x →
  Calls Tryz.prog 41 #[.agg cs.toArray, .int .i64 most] w fun e w' => ∃ r : Int, e = .returned (.int .i64 r) ∧ (-1 ≤ r ∨ r = most) ∧ r ≤ most ∧ Below w.heap.size w w'

set_option maxRecDepth 100000 in
set_option maxHeartbeats 4000000 in
theorem big_step (k n o : Int) (l : List Ex) (ih : ∀ x, x ∈ l → BigC x) : BigC (.mk k n o l) := by
  intro most cs w hm1 hm2 hin
  obtain ⟨a, cap, rfl, hle, hmx, -, -, -, hk⟩ := hin.open_
  unfold maxLen at hmx
  generalize hW : w.alloc (.cells #[.int .i64 k, .int .i64 n, .int .u8 o, .slice a l.length cap] 46) = W0
  have hB : Below w.heap.size w W0 := by subst hW; exact (Below.refl _ _).alloc (Nat.le_refl _) _
  have z0 : w.heap.size < W0.heap.size := by subst hW; simp
  have c3 : W0.cell? ⟨w.heap.size, 3, none⟩ = some (.slice a l.length cap) := by subst hW; go_simp
  have Hk := hid hk
  have HB := hid hB
  have hKB : Kp w W0 := Kp.of hB
  have HKB := hid hKB
  have hWx := hid hW
  have Hih := hid ih
  clear hW hB hin hk hKB ih
  go_enter Tryz.func41, Tryz.ntmps41
  go_wp2_with fail
  rw [hWx.out]
  go_loopw [1, 5] (fun c i wr => ∃ (q : Nat) (m : Int), q ≤ l.length ∧ i = .int .i64 q ∧ c = .int .i64 m ∧ (-1 ≤ m ∨ m = most) ∧ m ≤ most ∧ Kp W0 wr) (fun _ i _ => l.length - (intOf i).toNat)
  case atStart => exact ⟨0, _, Nat.zero_le _, rfl, rfl, by omega, by omega, Kp.refl _⟩
  case round =>
    obtain ⟨q, m, hq, rfl, rfl, hm3, hm4, hK⟩ := hrel
    have g0 := hK.1.size
    have g4 : w.heap.size < wr.heap.size := by omega
    by_cases hlt : q < l.length
    · have q0 : (0 : Int) ≤ q := by omega
      have q1 : (q : Int) < l.length := by omega
      by_cases hmm : 0 ≤ m
      · obtain ⟨b, off, u0, u1, u2, u3, rfl, hb, e0, e1, e2, e3, hx⟩ := Hk.out q hlt
        have hbl : b < w.heap.size := hb
        have hk2 := HKB.out
        rw [← hk2.2 _ _ hbl] at e0 e1 e2 e3
        have g3 : b < W0.heap.size := by omega
        have g5 : b < wr.heap.size := by omega
        have hw1 : IntKind.i64.wrap (m - 1) = m - 1 := IntWalk.i64_in _ (by omega)
        have hcall := hid (Hih.out l[q] (List.getElem_mem hlt) (m - 1) [u0, u1, u2, u3] wr (by omega) (by omega) (hK.ex (HKB.out.ex hx)))
        clear hx hk2
        have Hm3 := hid hm3
        clear hm3
        go_wp2_with (first
          | (go_at_call 41
             with_reducible refine hcall.out.mono ?_
             rintro e w1 ⟨r, rfl, hr1, hr2, hb1⟩
             have HR := hid hr1
             clear hr1
             have HK1 := hid (hK.next hb1))
          | fail)
        have hr1 := HR.out
        go_roundw
        case rel => exact ⟨q + 1, r, by omega, by simp, rfl, by omega, by omega, HK1.out⟩
        case measure => simp [intOf]; omega
      · have Hm3 := hid hm3
        clear hm3
        go_wp2_with fail
        go_ret
        exact ⟨m, rfl, Hm3.out, hm4, Kp.fin HB.out hK⟩
    · obtain rfl : q = l.length := by omega
      have Hm3 := hid hm3
      clear hm3
      go_wp2_with fail
      go_ret
      exact ⟨m, rfl, Hm3.out, hm4, Kp.fin HB.out hK⟩
theorem big_any (x : Ex) : BigC x := by
  induction x using Ex.ind with
  | h k n o l ih => exact big_step k n o l ih

def LargeC (l : List St) : Prop := ∀ (most : Int) (a : Option Addr) (cap : Nat) (w : World), -10 ≤ most → most ≤ 2000 → StRow w (In_ w) a l.length cap l →
  Calls Tryz.prog 23 #[.slice a l.length cap, .int .i64 most] w fun e w' => ∃ r : Int, e = .returned (.int .i64 r) ∧ (-2 ≤ r ∨ r = most) ∧ r ≤ most ∧ Below w.heap.size w w'

set_option maxRecDepth 100000 in
set_option maxHeartbeats 16000000 in
theorem large_step (l : List St) (ih : ∀ x ∈ l, LargeC x.t ∧ LargeC x.e) : LargeC l := by
  intro most a cap w hm1 hm2 hin
  have hle := hin.le
  have hmx := hin.mx
  unfold maxLen at hmx
  have Hin := hid hin
  have Hih := hid ih
  clear hin ih
  go_enter Tryz.func23, Tryz.ntmps23
  go_wp2_with fail
  go_loopw [1, 5] (fun c i wr => ∃ (q : Nat) (m : Int), q ≤ l.length ∧ i = .int .i64 q ∧ c = .int .i64 m ∧ (-2 ≤ m ∨ m = most) ∧ m ≤ most ∧ Below w.heap.size w wr) (fun _ i _ => l.length - (intOf i).toNat)
  case atStart => exact ⟨0, _, Nat.zero_le _, rfl, rfl, by omega, by omega, Below.refl _ _⟩
  case round =>
    obtain ⟨q, m, hq, rfl, rfl, hm3, hm4, hK⟩ := hrel
    have Hm3 := hid hm3
    clear hm3
    by_cases hlt : q < l.length
    case neg =>
      obtain rfl : q = l.length := by omega
      go_wp2_with fail
      go_ret
      exact ⟨m, rfl, Hm3.out, hm4, hK⟩
    by_cases hmm : 0 ≤ m
    case neg =>
      go_wp2_with fail
      go_ret
      exact ⟨m, rfl, Hm3.out, hm4, hK⟩
    have q0 : (0 : Int) ≤ q := by omega
    have q1 : (q : Int) < l.length := by omega
    have hK0 : Kp w wr := Kp.of hK
    have HK := hid hK
    obtain ⟨b, off, u0, u1, u2, u3, v0, v1, v2, v3, ta, ea, tc, ec, rfl, hb, ⟨e0, e1, e2⟩, ⟨e3, e4, e5, e6⟩, ⟨e7, e8, e9, e10⟩, ⟨e11, e12⟩, ⟨ha, hbx, ht, hee⟩, -⟩ := (hK0.strow Hin.out).at_ q hlt
    have hbl : b < wr.heap.size := hb
    obtain ⟨iht, ihe⟩ := Hih.out l[q] (List.getElem_mem hlt)
    generalize l[q] = x at *
    clear e0 e1 e2
    have hw1 : IntKind.i64.wrap (m - 1) = m - 1 := IntWalk.i64_in _ (by omega)
    have hA : Hid (∀ m : Int, -10 ≤ m → m ≤ 2000 → Calls Tryz.prog 41 #[.agg #[u0, u1, u2, u3], .int .i64 m] wr fun e w' => ∃ r : Int, e = .returned (.int .i64 r) ∧ (-1 ≤ r ∨ r = m) ∧ r ≤ m ∧ Below wr.heap.size wr w') := fun m h1 h2 => big_any x.a m [u0, u1, u2, u3] wr h1 h2 ha
    have hBb : Hid (∀ (W : World) (m : Int), -10 ≤ m → m ≤ 2000 → Kp wr W → Calls Tryz.prog 41 #[.agg #[v0, v1, v2, v3], .int .i64 m] W fun e w' => ∃ r : Int, e = .returned (.int .i64 r) ∧ (-1 ≤ r ∨ r = m) ∧ r ≤ m ∧ Below W.heap.size W w') := fun W m h1 h2 h3 => big_any x.b m [v0, v1, v2, v3] W h1 h2 (h3.ex hbx)
    have hT : Hid (∀ (W : World) (m : Int), -10 ≤ m → m ≤ 2000 → Kp wr W → Calls Tryz.prog 23 #[.slice ta x.t.length tc, .int .i64 m] W fun e w' => ∃ r : Int, e = .returned (.int .i64 r) ∧ (-2 ≤ r ∨ r = m) ∧ r ≤ m ∧ Below W.heap.size W w') := fun W m h1 h2 h3 => iht m ta tc W h1 h2 (h3.strow ht)
    have hE : Hid (∀ (W : World) (m : Int), -10 ≤ m → m ≤ 2000 → Kp wr W → Calls Tryz.prog 23 #[.slice ea x.e.length ec, .int .i64 m] W fun e w' => ∃ r : Int, e = .returned (.int .i64 r) ∧ (-2 ≤ r ∨ r = m) ∧ r ≤ m ∧ Below W.heap.size W w') := fun W m h1 h2 h3 => ihe m ea ec W h1 h2 (h3.strow hee)
    clear ha hbx ht hee iht ihe
    go_wp2_with (first
      | (go_at_call 41
         with_reducible refine (hA.out (m - 1) (by omega) (by omega)).mono ?_
         rintro e w1 ⟨r1, rfl, hr1, hr2, hb1⟩
         have hs1 : -1 ≤ r1 := by omega
         clear hr1
         have hz1 : b < w1.heap.size := Nat.lt_of_lt_of_le hbl hb1.size
         have hk1 : Kp wr w1 := Kp.of hb1
         have hw2 : IntKind.i64.wrap (r1 - 1) = r1 - 1 := IntWalk.i64_in _ (by omega))
      | (go_at_call 41
         with_reducible refine (hBb.out w1 (r1 - 1) (by omega) (by omega) hk1).mono ?_
         rintro e w2 ⟨r2, rfl, ht1, ht2, hb2⟩
         have hs2 : -2 ≤ r2 := by omega
         clear ht1
         have hz2 : b < w2.heap.size := Nat.lt_of_lt_of_le hz1 hb2.size
         have hk2 : Kp wr w2 := hk1.next hb2)
      | (go_at_call 23
         with_reducible refine (hT.out w2 r2 (by omega) (by omega) hk2).mono ?_
         rintro e w3 ⟨r3, rfl, hu1, hu2, hb3⟩
         have hs3 : -2 ≤ r3 := by omega
         clear hu1
         have hz3 : b < w3.heap.size := Nat.lt_of_lt_of_le hz2 hb3.size
         have hk3 : Kp wr w3 := hk2.next hb3)
      | (go_at_call 23
         with_reducible refine (hE.out w3 r3 (by omega) (by omega) hk3).mono ?_
         rintro e w4 ⟨r4, rfl, hv1, hv2, hb4⟩
         have hs4 : -2 ≤ r4 := by omega
         clear hv1
         have HK4 := hid (hk3.next hb4))
      | fail)
    go_roundw
    case rel => exact ⟨q + 1, r4, by omega, by simp, rfl, by omega, by omega, Kp.fin HK.out HK4.out⟩
    case measure => simp [intOf]; omega
theorem large_both (x : St) : LargeC x.t ∧ LargeC x.e := by
  induction x using St.ind with
  | h k r v a b t e iht ihe => exact ⟨large_step t iht, large_step e ihe⟩
theorem large_any (l : List St) : LargeC l := large_step l fun x _ => large_both x

set_option maxRecDepth 100000 in
set_option maxHeartbeats 4000000 in
theorem fewP_any (p : Pg) (cs : List Value) (w : World) (hin : PgIn w (In_ w) cs p) (rt : p.ths.length ≤ 140737488355328) : Calls Tryz.prog 9 #[.agg cs.toArray, .int .i64 2000] w (SomeB w) := by
  obtain ⟨va, cv, ta, ct, rfl, hv, ht, hwf⟩ := hin
  have hvc := hv.le
  have hvm := hv.mx
  have htc := ht.le
  have htm := ht.mx
  unfold maxLen at hvm htm
  generalize p.vars = vs at *
  generalize p.ths = t at *
  generalize p.dom = dom at *
  generalize hW : w.alloc (.cells #[.slice va vs.length cv, .int .i64 dom, .slice ta t.length ct] 25) = W0
  have hB : Below w.heap.size w W0 := by subst hW; exact (Below.refl _ _).alloc (Nat.le_refl _) _
  have z0 : w.heap.size < W0.heap.size := by subst hW; simp
  have c0 : W0.cell? ⟨w.heap.size, 0, none⟩ = some (.slice va vs.length cv) := by subst hW; go_simp
  have c2 : W0.cell? ⟨w.heap.size, 2, none⟩ = some (.slice ta t.length ct) := by subst hW; go_simp
  have Hin := hid ((Kp.of hB).ts ht)
  have HB := hid hB
  have hWx := hid hW
  clear hW hB ht hv hwf
  go_enter Tryz.func9, Tryz.ntmps9
  go_wp2_with fail
  rw [hWx.out]
  go_loopw [1, 5] (fun c i wr => ∃ (q : Nat) (m : Int), q ≤ t.length ∧ i = .int .i64 q ∧ c = .int .i64 m ∧ -2 ≤ m ∧ m ≤ 2000 ∧ Kp W0 wr) (fun _ i _ => t.length - (intOf i).toNat)
  case atStart => exact ⟨0, _, Nat.zero_le _, rfl, rfl, by omega, by omega, Kp.refl _⟩
  case round =>
    obtain ⟨q, m, hq, rfl, rfl, hm3, hm4, hK⟩ := hrel
    have g0 := hK.1.size
    have g4 : w.heap.size < wr.heap.size := by omega
    by_cases hlt : q < t.length
    case neg =>
      obtain rfl : q = t.length := by omega
      by_cases hmm : 0 ≤ m
      · go_wp2_with fail
        go_ret
        exact ⟨_, rfl, Kp.fin HB.out hK⟩
      · go_wp2_with fail
        go_ret
        exact ⟨_, rfl, Kp.fin HB.out hK⟩
    by_cases hmm : 0 ≤ m
    case neg =>
      go_wp2_with fail
      go_ret
      exact ⟨_, rfl, Kp.fin HB.out hK⟩
    have q0 : (0 : Int) ≤ q := by omega
    have q1 : (q : Int) < t.length := by omega
    obtain ⟨b, off, ar, kr, rfl, hb, e0, hrow⟩ := Hin.out.at_ q hlt
    have hbl : b < W0.heap.size := hb
    have g5 : b < wr.heap.size := by omega
    have hw1 : IntKind.i64.wrap (m - 1) = m - 1 := IntWalk.i64_in _ (by omega)
    have hcall := hid (large_any t[q] (m - 1) ar kr wr (by omega) (by omega) (hK.strow hrow))
    clear hrow
    go_wp2_with (first
      | (go_at_call 23
         with_reducible refine hcall.out.mono ?_
         rintro e w1 ⟨r, rfl, hr1, hr2, hb1⟩
         have hs1 : -2 ≤ r := by omega
         clear hr1
         have HK1 := hid (hK.next hb1))
      | fail)
    go_roundw
    case rel => exact ⟨q + 1, r, by omega, by simp, rfl, by omega, by omega, HK1.out⟩
    case measure => simp [intOf]; omega
end Go.Proofs.YtcgpobeidlimkaaGreatDoor
