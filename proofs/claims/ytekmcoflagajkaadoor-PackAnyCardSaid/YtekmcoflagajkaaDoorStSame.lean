/- Two states that hold the same are the same. -/
import Derived.Test.YtekmcoflagajkaaDoorStpM
import Derived.Test.YtekmcoflagajkaaDoorEnS
import Derived.Test.YtekmcoflagajkaaDoorKp
import Derived.Test.YtekmcoflagajkaaDoorArrEq
import Derived.BigQuiet
import Derived.Deep.QuietTactic
import Derived.Deep.RegionHeld3
namespace Go.Proofs.YtekmcoflagajkaaDoor
open Go.RowKit

set_option maxRecDepth 100000 in
set_option maxHeartbeats 8000000 in
theorem stSame_eq (ah ah' : Option Addr) (caph caph' : Nat) (th : List Thr) (am am' : Option Addr) (capm capm' : Nat) (mem : List Int) (bad : Bool) (w : World)
    (hh : ThrIn w (In_ w) ah th.length caph th) (hm : IntIn w (In_ w) am mem.length capm mem) (hh' : ThrIn w (In_ w) ah' th.length caph' th) (hm' : IntIn w (In_ w) am' mem.length capm' mem) :
    Calls Tryd.prog 11 #[.agg #[.slice ah th.length caph, .slice am mem.length capm, .bool bad], .agg #[.slice ah' th.length caph', .slice am' mem.length capm', .bool bad]] w
      fun e w' => e = .returned (.bool true) ∧ Below w.heap.size w w' := by
  have l3 := hh.le
  have l4 := hh.mx
  have l5 := hm.2.le
  have l6 := hm.2.mx
  have l7 := hh'.le
  have l8 := hh'.mx
  have l9 := hm'.2.le
  have l10 := hm'.2.mx
  unfold maxLen at l4 l6 l8 l10
  obtain ⟨W0, hW⟩ : ∃ W0, W0 = (w.alloc (.cells #[.slice ah th.length caph, .slice am mem.length capm, .bool bad] 30)).alloc (.cells #[.slice ah' th.length caph', .slice am' mem.length capm', .bool bad] 30) := ⟨_, rfl⟩
  have hB : Below w.heap.size w W0 := by subst hW; exact ((Below.refl _ _).alloc (Nat.le_refl _) _).alloc (by simp) _
  have z1 : w.heap.size + 1 < W0.heap.size := by subst hW; simp
  have z0 : w.heap.size < W0.heap.size := by omega
  have s0 : W0.cell? ⟨w.heap.size, 0, none⟩ = some (.slice ah th.length caph) := by subst hW; go_simp
  have s1 : W0.cell? ⟨w.heap.size, 1, none⟩ = some (.slice am mem.length capm) := by subst hW; go_simp
  have s2 : W0.cell? ⟨w.heap.size, 2, none⟩ = some (.bool bad) := by subst hW; go_simp
  have s3 : W0.cell? ⟨w.heap.size + 1, 0, none⟩ = some (.slice ah' th.length caph') := by subst hW; go_simp
  have s4 : W0.cell? ⟨w.heap.size + 1, 1, none⟩ = some (.slice am' mem.length capm') := by subst hW; go_simp
  have s5 : W0.cell? ⟨w.heap.size + 1, 2, none⟩ = some (.bool bad) := by subst hW; go_simp
  have hh0 := hid ((Kp.of hB).thr hh)
  have hm0 := hid ((Kp.of hB).ints hm)
  have hh1 := hid ((Kp.of hB).thr hh')
  have hm1 := hid ((Kp.of hB).ints hm')
  have HB := hid hB
  have hWx := hid hW
  clear hW hB hh hm hh' hm'
  go_enter Tryd.func11, Tryd.ntmps11
  go_wp2_with fail
  rw [← hWx.out]
  have hbb : (bad != bad) = false := by cases bad <;> rfl
  go_wp2_with fail
  go_loopw [5] (fun i wr => ∃ k : Nat, k ≤ mem.length ∧ i = .int .i64 k ∧ Kp W0 wr) (fun i _ => mem.length - (intOf i).toNat)
  case atStart => exact ⟨0, Nat.zero_le _, rfl, Kp.refl _⟩
  case round =>
    obtain ⟨k, hk, rfl, hK⟩ := hrel
    by_cases hlt : k < mem.length
    · obtain ⟨bb, off, rfl, hbb', e0⟩ := hm0.out.at_ k hlt
      obtain ⟨bc, off', rfl, hbc, e1⟩ := hm1.out.at_ k hlt
      generalize mem[k] = n at *
      have hl1 := hbb'.lt
      have hl2 := hbc.lt
      have k0 : (0 : Int) ≤ k := by omega
      have k1 : (k : Int) < mem.length := by omega
      have hnn : (n != n) = false := bne_self_eq_false _
      go_wp2_with fail
      go_quiet (fail)
      go_wp2
      go_roundw
      case rel => exact ⟨k + 1, by omega, by simp, drewN_kp hK nq⟩
      case measure => simp [intOf]; omega
    · obtain rfl : k = mem.length := by omega
      go_wp2_with fail
      obtain ⟨wo, rfl⟩ : ∃ wo : World, wo = wr := ⟨_, rfl⟩
      go_loopw [6] (fun i wr => ∃ k : Nat, k ≤ th.length ∧ i = .int .i64 k ∧ Kp W0 wr) (fun i _ => th.length - (intOf i).toNat)
      case atStart => exact ⟨0, Nat.zero_le _, rfl, hK⟩
      case round =>
        clear hK
        obtain ⟨k, hk, rfl, hK⟩ := hrel
        by_cases hlt : k < th.length
        · obtain ⟨bb, off, ar, kr, rfl, hb1, ⟨f0, f1, f2⟩, ⟨f3, f4, f5⟩, hen⟩ := hh0.out.at_ k hlt
          obtain ⟨bc, off', ar', kr', rfl, hb2, ⟨g0, g1, g2⟩, ⟨g3, g4, g5⟩, hen'⟩ := hh1.out.at_ k hlt
          generalize th[k] = x at *
          obtain ⟨pc, r0, r1, r2, r3, buf⟩ := x
          simp only at f0 f1 f2 f3 f4 f5 hen g0 g1 g2 g3 g4 g5 hen'
          have hl1 := hb1.lt
          have hl2 := hb2.lt
          have k0 : (0 : Int) ≤ k := by omega
          have k1 : (k : Int) < th.length := by omega
          have Hen := hid hen
          have Hen' := hid hen'
          clear hen hen'
          go_wp2_with fail
          go_region_held3 (Kp W0) (first | exact Kp.drew hK | exact Kp.alloc (Kp.alloc hK _) _ | exact Kp.alloc hK _ | exact Kp.drew (Kp.alloc (Kp.alloc hK _) _) | exact Kp.drew (Kp.alloc hK _)) (fail)
          all_goals
            have hnn : (pc != pc) = false := bne_self_eq_false _
            have hae := arr_same r0 r1 r2 r3
            have hK2 : Kp W0 (wr.drew) := Kp.drew hK
            go_wp2_with fail
            generalize hV : World.drew (World.alloc (World.alloc wr _) _) = V
            have hKV : Kp W0 V := by rw [← hV]; exact Kp.drew (Kp.alloc (Kp.alloc hK _) _)
            have hes := hid (enSame_any ar ar' buf.length kr buf.length kr' buf buf V (hKV.en Hen.out) (hKV.en Hen'.out))
            clear hV
            refine hes.out.mono ?_
            rintro e w9 ⟨rfl, hb9⟩
            have hbt : decide (buf = buf) = true := decide_eq_true rfl
            rw [hbt]
            have hK9 := hid (hKV.next hb9)
            clear hes hb9 hKV hK2 hbt hnn hae
            go_wp2_with fail
            go_roundw
            case rel => exact ⟨k + 1, by omega, by simp, hK9.out⟩
            case measure => simp [intOf]; omega
        · obtain rfl : k = th.length := by omega
          go_wp2_with fail
          go_ret
          exact ⟨rfl, Kp.fin HB.out hK⟩
end Go.Proofs.YtekmcoflagajkaaDoor
