/- The document's word on what code may be: Right. -/
import Derived.Test.YtekmcoflagajkaaGreatDoorTreF
import Derived.Test.YtekmcoflagajkaaGreatDoorBunD
import Derived.Test.YtekmcoflagajkaaGreatDoorBunM
import Derived.BigQuiet
import Derived.StillTailTactics
import Derived.Deep.CutRange
import Derived.Deep.CutBlock
namespace Go.Proofs.YtekmcoflagajkaaGreatDoor
open Go.RowKit

set_option maxRecDepth 100000 in
set_option maxHeartbeats 16000000 in
theorem refRight_any (vars dom : Int) (a : Option Addr) (n cap : Nat) (t : List (List Ins)) (w : World) (hin : ThsIn w (In_ w) a n cap t) :
    Calls Tryz.prog 35 #[.agg #[.int .i64 vars, .int .i64 dom, .slice a n cap]] w fun e w' => e = .returned (.bool (rightL vars dom t)) ∧ Below w.heap.size w w' := by
  have hn := hin.1
  subst hn
  have hcap := hin.le
  have hmx := hin.mx
  unfold maxLen at hmx
  have hres : Hid (rightL vars dom t = (decide (1 ≤ vars) && decide (vars ≤ 4) && decide (2 ≤ dom) && decide (dom ≤ 16) && decide (1 ≤ t.length) && decide (t.length ≤ 4) && t.all fun l => rowL vars dom l)) := rfl
  have hB : Below w.heap.size w (w.alloc (.cells #[.int .i64 vars, .int .i64 dom, .slice a t.length cap] 25)) := (Below.refl _ _).alloc (Nat.le_refl _) _
  have HB := hid hB
  have hin2 := hid ((Kp.of hB).ths hin)
  clear hin hB
  go_enter Tryz.func35, Tryz.ntmps35
  by_cases v1 : vars < 1
  · go_wp2_with fail
    go_ret
    exact ⟨ret_bool (by rw [hres.out, decide_eq_false (show ¬ 1 ≤ vars by omega)]; simp), HB.out⟩
  by_cases v4 : 4 < vars
  · go_wp2_with fail
    go_ret
    exact ⟨ret_bool (by rw [hres.out, decide_eq_false (show ¬ vars ≤ 4 by omega)]; simp), HB.out⟩
  by_cases d2 : dom < 2
  · go_wp2_with fail
    go_ret
    exact ⟨ret_bool (by rw [hres.out, decide_eq_false (show ¬ 2 ≤ dom by omega)]; simp), HB.out⟩
  by_cases d16 : 16 < dom
  · go_wp2_with fail
    go_ret
    exact ⟨ret_bool (by rw [hres.out, decide_eq_false (show ¬ dom ≤ 16 by omega)]; simp), HB.out⟩
  by_cases l1 : t.length < 1
  · go_wp2_with fail
    go_ret
    exact ⟨ret_bool (by rw [hres.out, decide_eq_false (show ¬ 1 ≤ t.length by omega)]; simp), HB.out⟩
  by_cases l4 : 4 < t.length
  · go_wp2_with fail
    go_ret
    exact ⟨ret_bool (by rw [hres.out, decide_eq_false (show ¬ t.length ≤ 4 by omega)]; simp), HB.out⟩
  have hres2 : Hid (rightL vars dom t = t.all fun l => rowL vars dom l) := by
    show _ = _
    rw [hres.out, decide_eq_true (show 1 ≤ vars by omega), decide_eq_true (show vars ≤ 4 by omega), decide_eq_true (show 2 ≤ dom by omega), decide_eq_true (show dom ≤ 16 by omega), decide_eq_true (show 1 ≤ t.length by omega), decide_eq_true (show t.length ≤ 4 by omega)]
    rfl
  clear hres
  go_wp2_with fail
  clear v1 v4 d2 d16 l1 l4
  generalize hW : World.alloc w _ = W0 at *
  have z0 : w.heap.size < W0.heap.size := by subst hW; simp
  have c0 : W0.cell? ⟨w.heap.size, 0, none⟩ = some (.int .i64 vars) := by subst hW; go_simp
  have c1 : W0.cell? ⟨w.heap.size, 1, none⟩ = some (.int .i64 dom) := by subst hW; go_simp
  have c2 : W0.cell? ⟨w.heap.size, 2, none⟩ = some (.slice a t.length cap) := by subst hW; go_simp
  clear hW
  go_loopw [3] (fun i wr => ∃ k : Nat, k ≤ t.length ∧ i = .int .i64 k ∧ Hid (((t.take k).all fun l => rowL vars dom l) = true) ∧ Kp W0 wr) (fun i _ => t.length - (intOf i).toNat)
  case atStart => exact ⟨0, Nat.zero_le _, rfl, (rfl : _ = _), Kp.refl _⟩
  case round =>
    obtain ⟨k, hk, rfl, hno, hK⟩ := hrel
    by_cases hlt : k < t.length
    · obtain ⟨bb, off, ar, kr, rfl, hbb, e0, hrow⟩ := hin2.out.at_ k hlt
      have hbl := hbb.lt
      have k0 : (0 : Int) ≤ k := by omega
      have k1 : (k : Int) < t.length := by omega
      have g0 := hK.1.size
      have g1 : w.heap.size < wr.heap.size := by omega
      have g3 : bb < wr.heap.size := by omega
      have htk := hid (all_snoc (fun l => rowL vars dom l) t k hlt hno.out)
      have hall := all_false (fun l => rowL vars dom l) t k hlt
      have hallx : Hid (rowL vars dom t[k] = false → rightL vars dom t = false) := fun h => by rw [hres2.out, hall h]
      have hrc := hrow.le
      have hrm := hrow.mx
      unfold maxLen at hrm
      have hrow := hid hrow
      clear hno hall
      generalize t[k] = l at *
      by_cases hm : 600 < l.length
      · have hf : Hid (rowL vars dom l = false) := by
          show _ = _
          unfold rowL
          rw [decide_eq_false (by omega)]
          rfl
        go_wp2_with fail
        go_ret
        exact ⟨ret_bool (by rw [hallx.out hf.out]), Kp.fin HB.out hK⟩
      · have hfl : Hid (∀ i (hi : i < l.length), insL vars dom l[i] l.length = false → rightL vars dom t = false) := fun i hi h => hallx.out (by
          unfold rowL
          rw [all_false (fun x => insL vars dom x l.length) l i hi h, Bool.and_false])
        have hft : Hid (((l.take l.length).all fun x => insL vars dom x l.length) = true → rowL vars dom l = true) := fun h => by
          rw [List.take_length] at h
          unfold rowL
          rw [h, decide_eq_true (by omega)]
          rfl
        go_wp2_with fail
        go_loopw [5] (fun i wr => ∃ i0 : Nat, i0 ≤ l.length ∧ i = .int .i64 i0 ∧ Hid (((l.take i0).all fun x => insL vars dom x l.length) = true) ∧ Kp W0 wr) (fun i _ => l.length - (intOf i).toNat)
        case atStart => exact ⟨0, Nat.zero_le _, rfl, (rfl : _ = _), hK⟩
        case round =>
          clear hK g0 g1 g3
          obtain ⟨i, hi, rfl, hno, hK⟩ := hrel
          by_cases hlt2 : i < l.length
          · obtain ⟨b2, off2, u0, u1, u2, u3, v0, v1, v2, v3, rfl, hb2, ⟨f0, f1, f2⟩, ⟨f3, f4, f5, f6⟩, ⟨f7, f8, f9, f10⟩, f11, hxa, hxb⟩ := hrow.out.at_ i hlt2
            have hb2l := hb2.lt
            have i0 : (0 : Int) ≤ i := by omega
            have i1 : (i : Int) < l.length := by omega
            have g0 := hK.1.size
            have g1 : w.heap.size < wr.heap.size := by omega
            have g3 : b2 < wr.heap.size := by omega
            have hsn := hid (all_snoc (fun x => insL vars dom x l.length) l i hlt2 hno.out)
            have hbad := hid (hfl.out i hlt2)
            generalize l[i] = x at *
            obtain ⟨op, reg, v, xa, xb, dst⟩ := x
            simp only at f0 f1 f2 f11 hxa hxb
            have hpart : Hid (∀ K w3, Kp wr w3 → Calls Tryz.prog 55 #[.int .i64 K, .int .i64 reg, .int .i64 v, .agg #[u0, u1, u2, u3], .agg #[v0, v1, v2, v3], .int .i64 vars, .int .i64 dom] w3 fun e w' => e = .returned (.bool (partL K reg v xa xb vars dom)) ∧ Below w3.heap.size w3 w') := fun K w3 h3 =>
              refPart_any K reg v xa xb vars dom [u0, u1, u2, u3] [v0, v1, v2, v3] w3 (h3.ex (hK.ex hxa)) (h3.ex (hK.ex hxb))
            have hxx : Hid (insL vars dom ⟨op, reg, v, xa, xb, dst⟩ l.length = (decide (1 ≤ insK op) && decide (insK op ≤ 9) && decide (0 ≤ dst) && decide (dst ≤ insT op l.length) && partL (insK op) reg v xa xb vars dom)) := rfl
            rw [← (hK.2 _ _ hb2l)] at f0 f1 f2 f3 f4 f5 f6 f7 f8 f9 f10 f11
            have c0' : wr.cell? ⟨w.heap.size, 0, none⟩ = some (.int .i64 vars) := (hK.2 _ _ z0).trans c0
            have c1' : wr.cell? ⟨w.heap.size, 1, none⟩ = some (.int .i64 dom) := (hK.2 _ _ z0).trans c1
            have HK := hid hK
            clear hno hxa hxb hK
            go_upto_block 4 with fail
            go_cut [6, 7] from 53 to 127 (fun k t wx => k = .int .i64 (insK op) ∧ t = .int .i64 (insT op l.length) ∧ wx = wr)
            case first =>
              by_cases o12 : op = 12
              · subst o12
                have hT : Hid (insT 12 l.length = l.length) := by show _ = _; unfold insT; rw [if_pos (by omega)]
                go_wp2_with fail
                go_meet
                case rel => exact ⟨rfl, by rw [hT.out], rfl⟩
              by_cases o13 : op = 13
              · subst o13
                have hT : Hid (insT 13 l.length = l.length) := by show _ = _; unfold insT; rw [if_pos (by omega)]
                go_wp2_with fail
                go_meet
                case rel => exact ⟨rfl, by rw [hT.out], rfl⟩
              by_cases o10 : op = 10
              · subst o10
                have hK9 : Hid (insK 10 = 10) := rfl
                go_wp2_with fail
                go_ret
                exact ⟨ret_bool (by rw [hbad.out (by rw [hxx.out, hK9.out]; rfl)]), Kp.fin HB.out HK.out⟩
              by_cases o11 : op = 11
              · subst o11
                have hK9 : Hid (insK 11 = 11) := rfl
                go_wp2_with fail
                go_ret
                exact ⟨ret_bool (by rw [hbad.out (by rw [hxx.out, hK9.out]; rfl)]), Kp.fin HB.out HK.out⟩
              have e12 : (op == 12) = false := by simpa using o12
              have e13 : (op == 13) = false := by simpa using o13
              have e10 : (op == 10) = false := by simpa using o10
              have e11 : (op == 11) = false := by simpa using o11
              have hK9 : Hid (insK op = op) := by show _ = _; unfold insK; rw [if_neg o12, if_neg o13]
              have hT : Hid (insT op l.length = 0) := by show _ = _; unfold insT; rw [if_neg (by omega)]
              clear o12 o13 o10 o11
              go_wp2_with fail
              go_meet
              case rel => exact ⟨by rw [hK9.out], by rw [hT.out], rfl⟩
            case rest =>
              obtain ⟨rfl, rfl, hwc⟩ := hcut
              subst hwc
              generalize insK op = K at *
              generalize insT op l.length = T at *
              cases k1 : decide (K < 1)
              case true =>
                have k1x : Hid (decide (1 ≤ K) = false) := by have h := of_decide_eq_true k1; exact decide_eq_false (by omega)
                go_wp2_with fail
                go_quiet (fail)
                have HK3 := hid (drewN_kp HK.out nq)
                go_wp2_with fail
                go_ret
                exact ⟨ret_bool (by rw [hbad.out (by rw [hxx.out, k1x.out]; simp)]), Kp.fin HB.out HK3.out⟩
              have k1y : Hid (decide (1 ≤ K) = true) := by have h := of_decide_eq_false k1; exact decide_eq_true (by omega)
              cases k9 : decide (9 < K)
              case true =>
                have k9x : Hid (decide (K ≤ 9) = false) := by have h := of_decide_eq_true k9; exact decide_eq_false (by omega)
                go_wp2_with fail
                go_quiet (fail)
                have HK3 := hid (drewN_kp HK.out nq)
                go_wp2_with fail
                go_ret
                exact ⟨ret_bool (by rw [hbad.out (by rw [hxx.out, k9x.out]; simp)]), Kp.fin HB.out HK3.out⟩
              have k9y : Hid (decide (K ≤ 9) = true) := by have h := of_decide_eq_false k9; exact decide_eq_true (by omega)
              cases t0 : decide (dst < 0)
              case true =>
                have t0x : Hid (decide (0 ≤ dst) = false) := by have h := of_decide_eq_true t0; exact decide_eq_false (by omega)
                go_wp2_with fail
                go_quiet (fail)
                have HK3 := hid (drewN_kp HK.out nq)
                go_wp2_with fail
                go_ret
                exact ⟨ret_bool (by rw [hbad.out (by rw [hxx.out, t0x.out]; simp)]), Kp.fin HB.out HK3.out⟩
              have t0y : Hid (decide (0 ≤ dst) = true) := by have h := of_decide_eq_false t0; exact decide_eq_true (by omega)
              cases t2 : decide (T < dst)
              case true =>
                have t2x : Hid (decide (dst ≤ T) = false) := by have h := of_decide_eq_true t2; exact decide_eq_false (by omega)
                go_wp2_with fail
                go_quiet (fail)
                have HK3 := hid (drewN_kp HK.out nq)
                go_wp2_with fail
                go_ret
                exact ⟨ret_bool (by rw [hbad.out (by rw [hxx.out, t2x.out]; simp)]), Kp.fin HB.out HK3.out⟩
              have t2y : Hid (decide (dst ≤ T) = true) := by have h := of_decide_eq_false t2; exact decide_eq_true (by omega)
              have hz : Hid (insL vars dom ⟨op, reg, v, xa, xb, dst⟩ l.length = partL K reg v xa xb vars dom) := by show _ = _; rw [hxx.out, k1y.out, k9y.out, t0y.out, t2y.out]; rfl
              have hpk := hid (hpart.out K wc.drew (Kp.start wc))
              clear hpart hxx
              generalize partL K reg v xa xb vars dom = y at *
              go_wp2_with fail
              go_still_tail 49, (by kernel_rfl)
              change wpList _ _ _ _ _ wc.drew
              have HK2 := hid (HK.out.drew)
              generalize wc.drew = w2 at *
              cases y
              · go_wp2_with (first
                  | (go_at_call 55; (with_reducible refine hpk.out.mono ?_); rintro e w3 ⟨rfl, hb3⟩)
                  | fail)
                go_ret
                exact ⟨ret_bool (by rw [hbad.out hz.out]), Kp.fin HB.out (HK2.out.next hb3)⟩
              · go_wp2_with (first
                  | (go_at_call 55; (with_reducible refine hpk.out.mono ?_); rintro e w3 ⟨rfl, hb3⟩)
                  | fail)
                go_roundw
                case rel => exact ⟨i + 1, by omega, by simp, by show _ = _; rw [hsn.out, hz.out], HK2.out.next hb3⟩
                case measure => simp [intOf]; omega
          · obtain rfl : i = l.length := by omega
            have hrl := hid (hft.out hno.out)
            go_wp2_with fail
            go_roundw
            case rel => exact ⟨k + 1, by omega, by simp, by show _ = _; rw [htk.out, hrl.out], hK⟩
            case measure => simp [intOf]; omega
    · obtain rfl : k = t.length := by omega
      rw [List.take_length] at hno
      go_wp2_with fail
      go_ret
      exact ⟨ret_bool (by rw [hres2.out, hno.out]), Kp.fin HB.out hK⟩
end Go.Proofs.YtekmcoflagajkaaGreatDoor
