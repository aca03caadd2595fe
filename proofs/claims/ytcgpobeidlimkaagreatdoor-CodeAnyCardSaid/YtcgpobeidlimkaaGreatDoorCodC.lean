/- The program's word on what code may be: Right. -/
import Derived.Test.YtcgpobeidlimkaaGreatDoorCodB
namespace Go.Proofs.YtcgpobeidlimkaaGreatDoor
open Go.RowKit

theorem rowL_eq (vars dom : Int) (l : List Ins) : rowL vars dom l = (decide (l.length ≤ 600) && !(l.any fun x => !insL vars dom x l.length)) := by
  unfold rowL
  rw [List.all_eq_not_any_not]
theorem all_snoc {α : Type} (f : α → Bool) (t : List α) (k : Nat) (hk : k < t.length) (h : (t.take k).all f = true) : (t.take (k + 1)).all f = f t[k] := by
  rw [List.take_succ_eq_append_getElem hk, List.all_append, h]
  simp
theorem all_false {α : Type} (f : α → Bool) (t : List α) (k : Nat) (hk : k < t.length) (h : f t[k] = false) : t.all f = false := by
  rw [List.all_eq_false]
  exact ⟨t[k], List.getElem_mem hk, by simp [h]⟩

set_option maxRecDepth 100000 in
set_option maxHeartbeats 4000000 in
theorem right_any (vars dom : Int) (a : Option Addr) (n cap : Nat) (t : List (List Ins)) (w : World) (hin : ThsIn w (In_ w) a n cap t) :
    Calls Tryz.prog 21 #[.agg #[.int .i64 vars, .int .i64 dom, .slice a n cap]] w fun e w' => e = .returned (.bool (rightL vars dom t)) ∧ Below w.heap.size w w' := by
  have hn := hin.1
  subst hn
  have hcap := hin.le
  have hmx := hin.mx
  unfold maxLen at hmx
  have hres : Hid (rightL vars dom t = (decide (1 ≤ vars) && decide (vars ≤ 4) && decide (2 ≤ dom) && decide (dom ≤ 16) && decide (1 ≤ t.length) && decide (t.length ≤ 4) && t.all fun l => rowL vars dom l)) := rfl
  have hB : Below w.heap.size w (w.alloc (.cells #[.int .i64 vars, .int .i64 dom, .slice a t.length cap] 30)) := (Below.refl _ _).alloc (Nat.le_refl _) _
  have HB := hid hB
  have hin2 := hid ((Kp.of hB).ths hin)
  clear hin hB
  go_enter Tryz.func21, Tryz.ntmps21
  by_cases v1 : vars < 1
  · go_wp2_with fail
    go_ret
    exact ⟨ret_bool (by rw [hres.out, decide_eq_false (show ¬ 1 ≤ vars by omega)]; simp), HB.out⟩
  by_cases v4 : 4 < vars
  · go_wp2_with fail
    go_ret
    exact ⟨ret_bool (by rw [hres.out, decide_eq_false (show ¬ vars ≤ 4 by omega)]; simp), HB.out⟩
  by_cases d2 : dom < 2
  · go_wp2_with fail
    go_ret
    exact ⟨ret_bool (by rw [hres.out, decide_eq_false (show ¬ 2 ≤ dom by omega)]; simp), HB.out⟩
  by_cases d16 : 16 < dom
  · go_wp2_with fail
    go_ret
    exact ⟨ret_bool (by rw [hres.out, decide_eq_false (show ¬ dom ≤ 16 by omega)]; simp), HB.out⟩
  by_cases l1 : t.length < 1
  · go_wp2_with fail
    go_ret
    exact ⟨ret_bool (by rw [hres.out, decide_eq_false (show ¬ 1 ≤ t.length by omega)]; simp), HB.out⟩
  by_cases l4 : 4 < t.length
  · go_wp2_with fail
    go_ret
    exact ⟨ret_bool (by rw [hres.out, decide_eq_false (show ¬ t.length ≤ 4 by omega)]; simp), HB.out⟩
  have hres2 : Hid (rightL vars dom t = t.all fun l => rowL vars dom l) := by
    show _ = _
    rw [hres.out, decide_eq_true (show 1 ≤ vars by omega), decide_eq_true (show vars ≤ 4 by omega), decide_eq_true (show 2 ≤ dom by omega), decide_eq_true (show dom ≤ 16 by omega), decide_eq_true (show 1 ≤ t.length by omega), decide_eq_true (show t.length ≤ 4 by omega)]
    rfl
  clear hres
  go_wp2_with fail
  clear v1 v4 d2 d16 l1 l4
  generalize hW : World.alloc w _ = W0 at *
  have z0 : w.heap.size < W0.heap.size := by subst hW; simp
  have c0 : W0.cell? ⟨w.heap.size, 0, none⟩ = some (.int .i64 vars) := by subst hW; go_simp
  have c1 : W0.cell? ⟨w.heap.size, 1, none⟩ = some (.int .i64 dom) := by subst hW; go_simp
  have c2 : W0.cell? ⟨w.heap.size, 2, none⟩ = some (.slice a t.length cap) := by subst hW; go_simp
  clear hW
  go_loopw [38] (fun i wr => ∃ k : Nat, k ≤ t.length ∧ i = .int .i64 k ∧ Hid (((t.take k).all fun l => rowL vars dom l) = true) ∧ Kp W0 wr) (fun i _ => t.length - (intOf i).toNat)
  case atStart => exact ⟨0, Nat.zero_le _, rfl, (rfl : _ = _), Kp.refl _⟩
  case round =>
    obtain ⟨k, hk, rfl, hno, hK⟩ := hrel
    by_cases hlt : k < t.length
    · obtain ⟨bb, off, ar, kr, rfl, hbb, e0, hrow⟩ := hin2.out.at_ k hlt
      have hbl := hbb.lt
      have k0 : (0 : Int) ≤ k := by omega
      have k1 : (k : Int) < t.length := by omega
      have g0 := hK.1.size
      have g1 : w.heap.size < wr.heap.size := by omega
      have g3 : bb < wr.heap.size := by omega
      have htk := hid (all_snoc (fun l => rowL vars dom l) t k hlt hno.out)
      have hall := hid (all_false (fun l => rowL vars dom l) t k hlt)
      have hrl := hid (rowL_eq vars dom t[k])
      have hrc := hrow.le
      have hrm := hrow.mx
      unfold maxLen at hrm
      have hA : Kp W0 (wr.alloc (.cells #[.slice ar t[k].length kr] 43)) := hK.alloc _
      have hcall := hid (insContains_any vars dom (.slice (some ⟨bb, off, none⟩) t.length cap) t[k] w.heap.size wr.heap.size ar kr ar t[k].length kr _ (hA.row hrow) (by simp; omega) ((hA.2 _ _ z0).trans c0) ((hA.2 _ _ z0).trans c1) ((hA.2 _ _ z0).trans c2) (by simp) (by go_simp))
      clear hno hrow
      generalize (t[k].any fun x => !insL vars dom x t[k].length) = y at *
      generalize hl : t[k].length = m at *
      clear hl
      by_cases hm : 600 < m
      · have hf : Hid (rowL vars dom t[k] = false) := by
          show _ = _
          rw [hrl.out, decide_eq_false (by omega)]
          rfl
        clear hcall
        go_wp2_with fail
        go_ret
        exact ⟨ret_bool (by rw [hres2.out, hall.out hf.out]), Kp.fin HB.out hA⟩
      · have hrl2 : Hid (rowL vars dom t[k] = !y) := by
          show _ = _
          rw [hrl.out, decide_eq_true (by omega)]
          rfl
        cases y
        · go_wp2_with (first
            | (go_at_call 37
               with_reducible refine hcall.out.mono ?_
               rintro e w1 ⟨rfl, hb3⟩
               have hK3 := hA.next hb3)
            | fail)
          go_roundw
          case rel => exact ⟨k + 1, by omega, by simp, by show _ = _; rw [htk.out, hrl2.out]; rfl, hK3⟩
          case measure => simp [intOf]; omega
        · go_wp2_with (first
            | (go_at_call 37
               with_reducible refine hcall.out.mono ?_
               rintro e w1 ⟨rfl, hb3⟩
               have hK3 := hA.next hb3)
            | fail)
          go_ret
          exact ⟨ret_bool (by rw [hres2.out, hall.out (by rw [hrl2.out]; rfl)]), Kp.fin HB.out hK3⟩
    · obtain rfl : k = t.length := by omega
      rw [List.take_length] at hno
      go_wp2_with fail
      go_ret
      exact ⟨ret_bool (by rw [hres2.out, hno.out]), Kp.fin HB.out hK⟩
end Go.Proofs.YtcgpobeidlimkaaGreatDoor
