/- Has code at most so many instructions and expressions? -/
import Derived.Test.YtphlbbnmligadaaGreatDoorBunS
import Derived.Test.YtphlbbnmligadaaGreatDoorBunM
import Derived.Deep.RegionHeld3
import Derived.Deep.CutRange
import Derived.Test.YtphlbbnmligadaaGreatDoorBunN
namespace Go.Proofs.YtphlbbnmligadaaGreatDoor
open Go.RowKit

/-- Some word, and nothing else. -/
def SomeB (w : World) (e : Ending) (w' : World) : Prop := ∃ b : Bool, e = .returned (.bool b) ∧ Below w.heap.size w w'

end Go.Proofs.YtphlbbnmligadaaGreatDoor
namespace Go.Proofs.YtphlbbnmligadaaGreatDoor
open Go.RowKit

def BigC (x : Ex) : Prop := ∀ (most : Int) (cs : List Value) (w : World), -10 ≤ most → most ≤ 2000 → ExIn w (In_ w) cs x →
  Calls Tryz.prog 19 #[.agg cs.toArray, .int .i64 most] w fun e w' => ∃ r : Int, e = .returned (.int .i64 r) ∧ (-1 ≤ r ∨ r = most) ∧ r ≤ most ∧ Below w.heap.size w w'

set_option maxRecDepth 100000 in
set_option maxHeartbeats 4000000 in
theorem big_step (k n o : Int) (l : List Ex) (ih : ∀ x, x ∈ l → BigC x) : BigC (.mk k n o l) := by
  intro most cs w hm1 hm2 hin
  obtain ⟨a, cap, rfl, hle, hmx, -, -, -, hk⟩ := hin.open_
  unfold maxLen at hmx
  generalize hW : w.alloc (.cells #[.int .i64 k, .int .i64 n, .int .u8 o, .slice a l.length cap] 44) = W0
  have hB : Below w.heap.size w W0 := by subst hW; exact (Below.refl _ _).alloc (Nat.le_refl _) _
  have z0 : w.heap.size < W0.heap.size := by subst hW; simp
  have c3 : W0.cell? ⟨w.heap.size, 3, none⟩ = some (.slice a l.length cap) := by subst hW; go_simp
  have Hk := hid hk
  have HB := hid hB
  have hKB : Kp w W0 := Kp.of hB
  have HKB := hid hKB
  have hWx := hid hW
  have Hih := hid ih
  clear hW hB hin hk hKB ih
  go_enter Tryz.func19, Tryz.ntmps19
  go_wp2_with fail
  rw [hWx.out]
  go_loopw [1, 5] (fun c i wr => ∃ (q : Nat) (m : Int), q ≤ l.length ∧ i = .int .i64 q ∧ c = .int .i64 m ∧ (-1 ≤ m ∨ m = most) ∧ m ≤ most ∧ Kp W0 wr) (fun _ i _ => l.length - (intOf i).toNat)
  case atStart => exact ⟨0, _, Nat.zero_le _, rfl, rfl, by omega, by omega, Kp.refl _⟩
  case round =>
    obtain ⟨q, m, hq, rfl, rfl, hm3, hm4, hK⟩ := hrel
    have g0 := hK.1.size
    have g4 : w.heap.size < wr.heap.size := by omega
    by_cases hlt : q < l.length
    · have q0 : (0 : Int) ≤ q := by omega
      have q1 : (q : Int) < l.length := by omega
      by_cases hmm : 0 ≤ m
      · obtain ⟨b, off, u0, u1, u2, u3, rfl, hb, e0, e1, e2, e3, hx⟩ := Hk.out q hlt
        have hbl : b < w.heap.size := hb
        have hk2 := HKB.out
        rw [← hk2.2 _ _ hbl] at e0 e1 e2 e3
        have g3 : b < W0.heap.size := by omega
        have g5 : b < wr.heap.size := by omega
        have hw1 : IntKind.i64.wrap (m - 1) = m - 1 := IntWalk.i64_in _ (by omega)
        have hcall := hid (Hih.out l[q] (List.getElem_mem hlt) (m - 1) [u0, u1, u2, u3] wr (by omega) (by omega) (hK.ex (HKB.out.ex hx)))
        clear hx hk2
        have Hm3 := hid hm3
        clear hm3
        go_wp2_with (first
          | (go_at_call 19
             with_reducible refine hcall.out.mono ?_
             rintro e w1 ⟨r, rfl, hr1, hr2, hb1⟩
             have HR := hid hr1
             clear hr1
             have HK1 := hid (hK.next hb1))
          | fail)
        have hr1 := HR.out
        go_roundw
        case rel => exact ⟨q + 1, r, by omega, by simp, rfl, by omega, by omega, HK1.out⟩
        case measure => simp [intOf]; omega
      · have Hm3 := hid hm3
        clear hm3
        go_wp2_with fail
        go_ret
        exact ⟨m, rfl, Hm3.out, hm4, Kp.fin HB.out hK⟩
    · obtain rfl : q = l.length := by omega
      have Hm3 := hid hm3
      clear hm3
      go_wp2_with fail
      go_ret
      exact ⟨m, rfl, Hm3.out, hm4, Kp.fin HB.out hK⟩
theorem big_any (x : Ex) : BigC x := by
  induction x using Ex.ind with
  | h k n o l ih => exact big_step k n o l ih

def LargeC (l : List St) : Prop := ∀ (most : Int) (a : Option Addr) (cap : Nat) (w : World), -10 ≤ most → most ≤ 2000 → StRow w (In_ w) a l.length cap l →
  Calls Tryz.prog 36 #[.slice a l.length cap, .int .i64 most] w fun e w' => ∃ r : Int, e = .returned (.int .i64 r) ∧ (-2 ≤ r ∨ r = most) ∧ r ≤ most ∧ Below w.heap.size w w'

set_option maxRecDepth 100000 in
set_option maxHeartbeats 16000000 in
theorem large_step (l : List St) (ih : ∀ x ∈ l, LargeC x.t ∧ LargeC x.e) : LargeC l := by
  intro most a cap w hm1 hm2 hin
  have hle := hin.le
  have hmx := hin.mx
  unfold maxLen at hmx
  have Hin := hid hin
  have Hih := hid ih
  clear hin ih
  go_enter Tryz.func36, Tryz.ntmps36
  go_wp2_with fail
  go_loopw [1, 5] (fun c i wr => ∃ (q : Nat) (m : Int), q ≤ l.length ∧ i = .int .i64 q ∧ c = .int .i64 m ∧ (-2 ≤ m ∨ m = most) ∧ m ≤ most ∧ Below w.heap.size w wr) (fun _ i _ => l.length - (intOf i).toNat)
  case atStart => exact ⟨0, _, Nat.zero_le _, rfl, rfl, by omega, by omega, Below.refl _ _⟩
  case round =>
    obtain ⟨q, m, hq, rfl, rfl, hm3, hm4, hK⟩ := hrel
    have Hm3 := hid hm3
    clear hm3
    by_cases hlt : q < l.length
    case neg =>
      obtain rfl : q = l.length := by omega
      go_wp2_with fail
      go_ret
      exact ⟨m, rfl, Hm3.out, hm4, hK⟩
    by_cases hmm : 0 ≤ m
    case neg =>
      go_wp2_with fail
      go_ret
      exact ⟨m, rfl, Hm3.out, hm4, hK⟩
    have q0 : (0 : Int) ≤ q := by omega
    have q1 : (q : Int) < l.length := by omega
    have hK0 : Kp w wr := Kp.of hK
    have HK := hid hK
    obtain ⟨b, off, u0, u1, u2, u3, v0, v1, v2, v3, ta, ea, tc, ec, rfl, hb, ⟨e0, e1, e2⟩, ⟨e3, e4, e5, e6⟩, ⟨e7, e8, e9, e10⟩, ⟨e11, e12⟩, ⟨ha, hbx, ht, hee⟩, -⟩ := (hK0.strow Hin.out).at_ q hlt
    have hbl : b < wr.heap.size := hb
    obtain ⟨iht, ihe⟩ := Hih.out l[q] (List.getElem_mem hlt)
    generalize l[q] = x at *
    clear e0 e1 e2
    have hw1 : IntKind.i64.wrap (m - 1) = m - 1 := IntWalk.i64_in _ (by omega)
    have hA : Hid (∀ m : Int, -10 ≤ m → m ≤ 2000 → Calls Tryz.prog 19 #[.agg #[u0, u1, u2, u3], .int .i64 m] wr fun e w' => ∃ r : Int, e = .returned (.int .i64 r) ∧ (-1 ≤ r ∨ r = m) ∧ r ≤ m ∧ Below wr.heap.size wr w') := fun m h1 h2 => big_any x.a m [u0, u1, u2, u3] wr h1 h2 ha
    have hBb : Hid (∀ (W : World) (m : Int), -10 ≤ m → m ≤ 2000 → Kp wr W → Calls Tryz.prog 19 #[.agg #[v0, v1, v2, v3], .int .i64 m] W fun e w' => ∃ r : Int, e = .returned (.int .i64 r) ∧ (-1 ≤ r ∨ r = m) ∧ r ≤ m ∧ Below W.heap.size W w') := fun W m h1 h2 h3 => big_any x.b m [v0, v1, v2, v3] W h1 h2 (h3.ex hbx)
    have hT : Hid (∀ (W : World) (m : Int), -10 ≤ m → m ≤ 2000 → Kp wr W → Calls Tryz.prog 36 #[.slice ta x.t.length tc, .int .i64 m] W fun e w' => ∃ r : Int, e = .returned (.int .i64 r) ∧ (-2 ≤ r ∨ r = m) ∧ r ≤ m ∧ Below W.heap.size W w') := fun W m h1 h2 h3 => iht m ta tc W h1 h2 (h3.strow ht)
    have hE : Hid (∀ (W : World) (m : Int), -10 ≤ m → m ≤ 2000 → Kp wr W → Calls Tryz.prog 36 #[.slice ea x.e.length ec, .int .i64 m] W fun e w' => ∃ r : Int, e = .returned (.int .i64 r) ∧ (-2 ≤ r ∨ r = m) ∧ r ≤ m ∧ Below W.heap.size W w') := fun W m h1 h2 h3 => ihe m ea ec W h1 h2 (h3.strow hee)
    clear ha hbx ht hee iht ihe
    go_wp2_with (first
      | (go_at_call 19
         with_reducible refine (hA.out (m - 1) (by omega) (by omega)).mono ?_
         rintro e w1 ⟨r1, rfl, hr1, hr2, hb1⟩
         have hs1 : -1 ≤ r1 := by omega
         clear hr1
         have hz1 : b < w1.heap.size := Nat.lt_of_lt_of_le hbl hb1.size
         have hk1 : Kp wr w1 := Kp.of hb1
         have hw2 : IntKind.i64.wrap (r1 - 1) = r1 - 1 := IntWalk.i64_in _ (by omega))
      | (go_at_call 19
         with_reducible refine (hBb.out w1 (r1 - 1) (by omega) (by omega) hk1).mono ?_
         rintro e w2 ⟨r2, rfl, ht1, ht2, hb2⟩
         have hs2 : -2 ≤ r2 := by omega
         clear ht1
         have hz2 : b < w2.heap.size := Nat.lt_of_lt_of_le hz1 hb2.size
         have hk2 : Kp wr w2 := hk1.next hb2)
      | (go_at_call 36
         with_reducible refine (hT.out w2 r2 (by omega) (by omega) hk2).mono ?_
         rintro e w3 ⟨r3, rfl, hu1, hu2, hb3⟩
         have hs3 : -2 ≤ r3 := by omega
         clear hu1
         have hz3 : b < w3.heap.size := Nat.lt_of_lt_of_le hz2 hb3.size
         have hk3 : Kp wr w3 := hk2.next hb3)
      | (go_at_call 36
         with_reducible refine (hE.out w3 r3 (by omega) (by omega) hk3).mono ?_
         rintro e w4 ⟨r4, rfl, hv1, hv2, hb4⟩
         have hs4 : -2 ≤ r4 := by omega
         clear hv1
         have HK4 := hid (hk3.next hb4))
      | fail)
    go_roundw
    case rel => exact ⟨q + 1, r4, by omega, by simp, rfl, by omega, by omega, Kp.fin HK.out HK4.out⟩
    case measure => simp [intOf]; omega
theorem large_both (x : St) : LargeC x.t ∧ LargeC x.e := by
  induction x using St.ind with
  | h k r v a b t e iht ihe => exact ⟨large_step t iht, large_step e ihe⟩
theorem large_any (l : List St) : LargeC l := large_step l fun x _ => large_both x

set_option maxRecDepth 100000 in
set_option maxHeartbeats 4000000 in
theorem fewP_any (p : Pg) (cs : List Value) (w : World) (hin : PgIn w (In_ w) cs p) (rt : p.ths.length ≤ 140737488355328) : Calls Tryz.prog 18 #[.agg cs.toArray, .int .i64 2000] w (SomeB w) := by
  obtain ⟨va, cv, ta, ct, rfl, hv, ht, hwf⟩ := hin
  have hvc := hv.le
  have hvm := hv.mx
  have htc := ht.le
  have htm := ht.mx
  unfold maxLen at hvm htm
  generalize p.vars = vs at *
  generalize p.ths = t at *
  generalize p.dom = dom at *
  generalize hW : w.alloc (.cells #[.slice va vs.length cv, .int .i64 dom, .slice ta t.length ct] 27) = W0
  have hB : Below w.heap.size w W0 := by subst hW; exact (Below.refl _ _).alloc (Nat.le_refl _) _
  have z0 : w.heap.size < W0.heap.size := by subst hW; simp
  have c0 : W0.cell? ⟨w.heap.size, 0, none⟩ = some (.slice va vs.length cv) := by subst hW; go_simp
  have c2 : W0.cell? ⟨w.heap.size, 2, none⟩ = some (.slice ta t.length ct) := by subst hW; go_simp
  have Hin := hid ((Kp.of hB).ts ht)
  have HB := hid hB
  have hWx := hid hW
  clear hW hB ht hv hwf
  go_enter Tryz.func18, Tryz.ntmps18
  go_wp2_with fail
  rw [hWx.out]
  go_loopw [1, 5] (fun c i wr => ∃ (q : Nat) (m : Int), q ≤ t.length ∧ i = .int .i64 q ∧ c = .int .i64 m ∧ -2 ≤ m ∧ m ≤ 2000 ∧ Kp W0 wr) (fun _ i _ => t.length - (intOf i).toNat)
  case atStart => exact ⟨0, _, Nat.zero_le _, rfl, rfl, by omega, by omega, Kp.refl _⟩
  case round =>
    obtain ⟨q, m, hq, rfl, rfl, hm3, hm4, hK⟩ := hrel
    have g0 := hK.1.size
    have g4 : w.heap.size < wr.heap.size := by omega
    by_cases hlt : q < t.length
    case neg =>
      obtain rfl : q = t.length := by omega
      by_cases hmm : 0 ≤ m
      · go_wp2_with fail
        go_ret
        exact ⟨_, rfl, Kp.fin HB.out hK⟩
      · go_wp2_with fail
        go_ret
        exact ⟨_, rfl, Kp.fin HB.out hK⟩
    by_cases hmm : 0 ≤ m
    case neg =>
      go_wp2_with fail
      go_ret
      exact ⟨_, rfl, Kp.fin HB.out hK⟩
    have q0 : (0 : Int) ≤ q := by omega
    have q1 : (q : Int) < t.length := by omega
    obtain ⟨b, off, ar, kr, rfl, hb, e0, hrow⟩ := Hin.out.at_ q hlt
    have hbl : b < W0.heap.size := hb
    have g5 : b < wr.heap.size := by omega
    have hw1 : IntKind.i64.wrap (m - 1) = m - 1 := IntWalk.i64_in _ (by omega)
    have hcall := hid (large_any t[q] (m - 1) ar kr wr (by omega) (by omega) (hK.strow hrow))
    clear hrow
    go_wp2_with (first
      | (go_at_call 36
         with_reducible refine hcall.out.mono ?_
         rintro e w1 ⟨r, rfl, hr1, hr2, hb1⟩
         have hs1 : -2 ≤ r := by omega
         clear hr1
         have HK1 := hid (hK.next hb1))
      | fail)
    go_roundw
    case rel => exact ⟨q + 1, r, by omega, by simp, rfl, by omega, by omega, HK1.out⟩
    case measure => simp [intOf]; omega
end Go.Proofs.YtphlbbnmligadaaGreatDoor
