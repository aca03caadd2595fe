/- The program's word on what fits: numbers, buffers. -/
import Derived.Test.YtekmcoflagajkaaGreatDoorBunV
import Derived.Test.YtekmcoflagajkaaGreatDoorBunU
import Derived.Test.YtekmcoflagajkaaGreatDoorBunT
namespace Go.Proofs.YtekmcoflagajkaaGreatDoor
open Go.RowKit

theorem oddInt_any (dom n : Int) (bc : Nat) (w : World) (_hbc : bc < w.heap.size) (c1 : w.cell? ⟨bc, 1, none⟩ = some (.int .i64 dom)) :
    Calls Tryz.prog 44 #[.int .i64 n, .pointer (some ⟨bc, 0, none⟩)] w fun e w' => e = .returned (.bool (!inL dom n)) ∧ w' = w := by
  go_enter Tryz.func44, Tryz.ntmps44
  by_cases h0 : n < 0
  · go_wp2_with fail
    go_ret
    exact ⟨ret_bool (by unfold inL; rw [decide_eq_false (show ¬ 0 ≤ n by omega)]; rfl), rfl⟩
  · go_wp2_with fail
    go_ret
    refine ⟨ret_bool ?_, rfl⟩
    unfold inL
    rw [decide_eq_true (show 0 ≤ n by omega)]
    by_cases h1 : dom ≤ n
    · rw [decide_eq_true h1, decide_eq_false (show ¬ n < dom by omega)]; rfl
    · rw [decide_eq_false h1, decide_eq_true (show n < dom by omega)]; rfl

def IdxSame (w : World) (b : Bool) (e : Ending) (w' : World) : Prop := ∃ r : Int, e = .returned (.int .i64 r) ∧ decide (0 ≤ r) = b ∧ w' = w

set_option maxHeartbeats 2000000 in
theorem intIndex_any (dom : Int) (l : List Int) (bc : Nat) (a : Option Addr) (cap : Nat) (w : World) (hin : IntIn w (In_ w) a l.length cap l)
    (hbc : bc < w.heap.size) (c1 : w.cell? ⟨bc, 1, none⟩ = some (.int .i64 dom)) :
    Calls Tryz.prog 58 #[.slice a l.length cap, .func (.func 44) #[] #[.pointer (some ⟨bc, 0, none⟩)]] w (IdxSame w (l.any fun n => !inL dom n)) := by
  have hcap := hin.2.le
  have hmx := hin.2.mx
  unfold maxLen at hmx
  have hin := hid hin
  go_enter Tryz.func58, Tryz.ntmps58
  go_wp2_with fail
  go_loopw [8] (fun i wr => ∃ k : Nat, k ≤ l.length ∧ i = .int .i64 k ∧ Hid (((l.take k).any fun n => !inL dom n) = false) ∧ wr = w) (fun i _ => l.length - (intOf i).toNat)
  case atStart => exact ⟨0, Nat.zero_le _, rfl, (rfl : _ = _), rfl⟩
  case round =>
    obtain ⟨k, hk, rfl, hno, hwr⟩ := hrel
    rw [hwr]
    clear hwr
    by_cases hlt : k < l.length
    · obtain ⟨bb, off, rfl, hbb, e0⟩ := hin.out.at_ k hlt
      have hbl := hbb.lt
      have k0 : (0 : Int) ≤ k := by omega
      have k1 : (k : Int) < l.length := by omega
      have hcall := hid (oddInt_any dom l[k] bc w hbc c1)
      have htk : Hid (((l.take (k + 1)).any fun n => !inL dom n) = !inL dom l[k]) := by
        show _ = _
        rw [List.take_succ_eq_append_getElem hlt, List.any_append, hno.out]
        simp
      have hall : Hid (inL dom l[k] = false → (l.any fun n => !inL dom n) = true) := by
        intro h
        exact List.any_eq_true.2 ⟨l[k], List.getElem_mem hlt, by simp [h]⟩
      clear hno
      cases hf : inL dom l[k]
      · rw [hf] at hcall htk
        go_wp2_with (first
          | (go_at_call 44
             with_reducible refine hcall.out.mono ?_
             rintro e w1 ⟨rfl, rfl⟩)
          | fail)
        go_ret
        exact ⟨k, rfl, by rw [hall.out hf]; simp, rfl⟩
      · rw [hf] at hcall htk
        go_wp2_with (first
          | (go_at_call 44
             with_reducible refine hcall.out.mono ?_
             rintro e w1 ⟨rfl, rfl⟩)
          | fail)
        go_roundw
        case rel => exact ⟨k + 1, by omega, by simp, htk, by trivial⟩
        case measure => simp [intOf]; omega
    · obtain rfl : k = l.length := by omega
      rw [List.take_length] at hno
      go_wp2_with fail
      go_ret
      exact ⟨-1, rfl, by rw [hno.out]; rfl, rfl⟩

theorem intContains_any (dom : Int) (l : List Int) (bc : Nat) (a : Option Addr) (cap : Nat) (w : World) (hin : IntIn w (In_ w) a l.length cap l)
    (hbc : bc < w.heap.size) (c1 : w.cell? ⟨bc, 1, none⟩ = some (.int .i64 dom)) :
    Calls Tryz.prog 45 #[.slice a l.length cap, .func (.func 44) #[] #[.pointer (some ⟨bc, 0, none⟩)]] w fun e w' => e = .returned (.bool (l.any fun n => !inL dom n)) ∧ w' = w := by
  have hcall := hid (intIndex_any dom l bc a cap w hin hbc c1)
  clear hin
  generalize (l.any fun n => !inL dom n) = y at *
  go_enter Tryz.func45, Tryz.ntmps45
  go_wp2_with (first
    | (go_at_call 58
       with_reducible refine hcall.out.mono ?_
       rintro e w1 ⟨r, rfl, hr, hb3⟩
       subst hb3)
    | fail)
  go_ret
  exact ⟨rfl, rfl⟩

set_option maxRecDepth 100000 in
set_option maxHeartbeats 8000000 in
theorem waits_any (vars dom m b : Int) (tv : Value) (a : Option Addr) (n cap : Nat) (l : List (Int × Int)) (w : World) (hl : EnIn w (In_ w) a n cap l) (hlen : l.length ≤ 1000) :
    Calls Tryz.prog 46 #[.agg #[.int .i64 vars, .int .i64 dom, tv], .agg #[.int .i64 m, .int .i64 b], .slice a n cap] w fun e w' => e = .returned (.bool (waitsL vars dom m b l)) ∧ Below w.heap.size w w' := by
  have hn := hl.1
  subst hn
  have hcap := hl.2.le
  have hmx := hl.2.mx
  unfold maxLen at hmx
  go_enter Tryz.func46, Tryz.ntmps46
  go_wp2_with fail
  generalize hW : World.alloc (World.alloc w _) _ = W0
  have hB : Below w.heap.size w W0 := by subst hW; exact ((Below.refl _ _).alloc (Nat.le_refl _) _).alloc (by simp) _
  have z1 : w.heap.size + 1 < W0.heap.size := by subst hW; simp
  have z0 : w.heap.size < W0.heap.size := by omega
  have c0 : W0.cell? ⟨w.heap.size, 0, none⟩ = some (.int .i64 vars) := by subst hW; go_simp
  have c1 : W0.cell? ⟨w.heap.size, 1, none⟩ = some (.int .i64 dom) := by subst hW; go_simp
  have m0 : W0.cell? ⟨w.heap.size + 1, 0, none⟩ = some (.int .i64 m) := by subst hW; go_simp
  have m1 : W0.cell? ⟨w.heap.size + 1, 1, none⟩ = some (.int .i64 b) := by subst hW; go_simp
  clear hW
  have hl0 := hid ((Kp.of hB).en hl)
  have HB := hid hB
  clear hB hl
  go_loopw [7, 13] (fun o i wr => ∃ k : Nat, k ≤ l.length ∧ i = .int .i64 k ∧ Hid ((List.range k).all (fun j => waitL vars dom m b l j) = true) ∧ Kp W0 wr ∧ ∃ a1 c1, o = .slice a1 (l.take k).length c1 ∧ Hid (EnIn wr (In_ wr) a1 (l.take k).length c1 (l.take k))) (fun _ i _ => l.length - (intOf i).toNat)
  case atStart => exact ⟨0, Nat.zero_le _, rfl, (rfl : _ = _), Kp.refl _, none, 0, rfl, EnIn.nil_⟩
  case round =>
    obtain ⟨k, hk, rfl, hno, hK, a1, c1', rfl, hO⟩ := hrel
    by_cases hlt : k < l.length
    · obtain ⟨bb, off, rfl, hbb, e0, e1⟩ := hl0.out.at_ k hlt
      have hbl := hbb.lt
      have k0 : (0 : Int) ≤ k := by omega
      have k1 : (k : Int) < l.length := by omega
      have g0 := hK.1.size
      have hsn := hid (range_snoc (fun j => waitL vars dom m b l j) k)
      have hbad : Hid (waitL vars dom m b l k = false → waitsL vars dom m b l = false) := fun h => range_false _ _ k hlt h
      have hwk : Hid (waitL vars dom m b l k = ((putL m b l[k] (l.take k)).2 && inL vars l[k].1 && inL dom l[k].2)) := by
        show _ = _
        unfold waitL
        rw [List.getElem?_eq_getElem hlt]
      have hle : Hid ((l.take k).length ≤ 1000) := by show _ ≤ _; rw [List.length_take]; omega
      have hts : Hid (l.take (k + 1) = l.take k ++ [l[k]]) := List.take_succ_eq_append_getElem hlt
      have hps := hid (putL_snd m b l[k] (l.take k))
      have hno1 := hno
      clear hno
      obtain ⟨X1, hX1⟩ : ∃ X1, X1 = l.take (k + 1) := ⟨_, rfl⟩
      rw [← hX1] at hts
      have HX1 := hid hX1
      clear hX1
      generalize l.take k = X at *
      generalize l[k] = x at *
      obtain ⟨v, u⟩ := x
      simp only at e0 e1
      obtain ⟨P, hP⟩ : ∃ P, putL m b (v, u) X = P := ⟨_, rfl⟩
      rw [hP] at hwk hps
      have HP := hid hP
      clear hP
      obtain ⟨X', is⟩ := P
      simp only at hwk hps
      have hA : Kp W0 (wr.alloc (.cells #[.int .i64 v, .int .i64 u] 66)) := hK.alloc _
      have hput := hid (put_any a1 X.length c1' X m b v u (wr.alloc (.cells #[.int .i64 v, .int .i64 u] 66)) (((Kp.refl wr).alloc _).en hO.out) hle.out)
      rw [HP.out] at hput
      have HK := hid hK
      cases is
      case false =>
        go_wp2_with (first
          | (go_at_call 59
             with_reducible refine hput.out.mono ?_
             rintro e w3 ⟨a3, c3, rfl, hp3, hb3⟩
             have hK3 : Kp W0 w3 := hA.next hb3
             have p0 : w3.cell? ⟨wr.heap.size, 0, none⟩ = some (.int .i64 v) := (hb3.cell (p := ⟨_, _, none⟩) (by simp)).trans (by go_simp)
             have p1 : w3.cell? ⟨wr.heap.size, 1, none⟩ = some (.int .i64 u) := (hb3.cell (p := ⟨_, _, none⟩) (by simp)).trans (by go_simp)
             have g5 : wr.heap.size < w3.heap.size := by have := hb3.size; simp at this; omega
             have hq3 := hid hp3
             clear hp3 hb3)
          | fail)
        go_ret
        exact ⟨ret_bool (by rw [hbad.out (by rw [hwk.out]; rfl)]), Kp.fin HB.out hK3⟩
      have hXs : Hid (X' = X1) := by show _ = _; rw [hts.out]; exact hps.out rfl
      by_cases v0 : v < 0
      · have hi : Hid (inL vars v = false) := by show _ = _; unfold inL; rw [decide_eq_false (show ¬ 0 ≤ v by omega)]; rfl
        go_wp2_with (first
          | (go_at_call 59
             with_reducible refine hput.out.mono ?_
             rintro e w3 ⟨a3, c3, rfl, hp3, hb3⟩
             have hK3 : Kp W0 w3 := hA.next hb3
             have p0 : w3.cell? ⟨wr.heap.size, 0, none⟩ = some (.int .i64 v) := (hb3.cell (p := ⟨_, _, none⟩) (by simp)).trans (by go_simp)
             have p1 : w3.cell? ⟨wr.heap.size, 1, none⟩ = some (.int .i64 u) := (hb3.cell (p := ⟨_, _, none⟩) (by simp)).trans (by go_simp)
             have g5 : wr.heap.size < w3.heap.size := by have := hb3.size; simp at this; omega
             have hq3 := hid hp3
             clear hp3 hb3)
          | fail)
        go_ret
        exact ⟨ret_bool (by rw [hbad.out (by rw [hwk.out]; rw [hi.out]; rfl)]), Kp.fin HB.out hK3⟩
      cases v1 : decide (vars ≤ v)
      case true =>
        have hi : Hid (inL vars v = false) := by have := of_decide_eq_true v1; show _ = _; unfold inL; rw [decide_eq_false (show ¬ v < vars by omega)]; simp
        go_wp2_with (first
          | (go_at_call 59
             with_reducible refine hput.out.mono ?_
             rintro e w3 ⟨a3, c3, rfl, hp3, hb3⟩
             have hK3 : Kp W0 w3 := hA.next hb3
             have p0 : w3.cell? ⟨wr.heap.size, 0, none⟩ = some (.int .i64 v) := (hb3.cell (p := ⟨_, _, none⟩) (by simp)).trans (by go_simp)
             have p1 : w3.cell? ⟨wr.heap.size, 1, none⟩ = some (.int .i64 u) := (hb3.cell (p := ⟨_, _, none⟩) (by simp)).trans (by go_simp)
             have g5 : wr.heap.size < w3.heap.size := by have := hb3.size; simp at this; omega
             have hq3 := hid hp3
             clear hp3 hb3)
          | fail)
        go_ret
        exact ⟨ret_bool (by rw [hbad.out (by rw [hwk.out]; rw [hi.out]; rfl)]), Kp.fin HB.out hK3⟩
      have hi : Hid (inL vars v = true) := by have := of_decide_eq_false v1; show _ = _; unfold inL; rw [decide_eq_true (show 0 ≤ v by omega), decide_eq_true (show v < vars by omega)]; rfl
      by_cases u0 : u < 0
      · have hj : Hid (inL dom u = false) := by show _ = _; unfold inL; rw [decide_eq_false (show ¬ 0 ≤ u by omega)]; rfl
        go_wp2_with (first
          | (go_at_call 59
             with_reducible refine hput.out.mono ?_
             rintro e w3 ⟨a3, c3, rfl, hp3, hb3⟩
             have hK3 : Kp W0 w3 := hA.next hb3
             have p0 : w3.cell? ⟨wr.heap.size, 0, none⟩ = some (.int .i64 v) := (hb3.cell (p := ⟨_, _, none⟩) (by simp)).trans (by go_simp)
             have p1 : w3.cell? ⟨wr.heap.size, 1, none⟩ = some (.int .i64 u) := (hb3.cell (p := ⟨_, _, none⟩) (by simp)).trans (by go_simp)
             have g5 : wr.heap.size < w3.heap.size := by have := hb3.size; simp at this; omega
             have hq3 := hid hp3
             clear hp3 hb3)
          | fail)
        go_ret
        exact ⟨ret_bool (by rw [hbad.out (by rw [hwk.out]; rw [hj.out]; simp)]), Kp.fin HB.out hK3⟩
      cases u1 : decide (dom ≤ u)
      case true =>
        have hj : Hid (inL dom u = false) := by have := of_decide_eq_true u1; show _ = _; unfold inL; rw [decide_eq_false (show ¬ u < dom by omega)]; simp
        go_wp2_with (first
          | (go_at_call 59
             with_reducible refine hput.out.mono ?_
             rintro e w3 ⟨a3, c3, rfl, hp3, hb3⟩
             have hK3 : Kp W0 w3 := hA.next hb3
             have p0 : w3.cell? ⟨wr.heap.size, 0, none⟩ = some (.int .i64 v) := (hb3.cell (p := ⟨_, _, none⟩) (by simp)).trans (by go_simp)
             have p1 : w3.cell? ⟨wr.heap.size, 1, none⟩ = some (.int .i64 u) := (hb3.cell (p := ⟨_, _, none⟩) (by simp)).trans (by go_simp)
             have g5 : wr.heap.size < w3.heap.size := by have := hb3.size; simp at this; omega
             have hq3 := hid hp3
             clear hp3 hb3)
          | fail)
        go_ret
        exact ⟨ret_bool (by rw [hbad.out (by rw [hwk.out]; rw [hj.out]; simp)]), Kp.fin HB.out hK3⟩
      have hj : Hid (inL dom u = true) := by have := of_decide_eq_false u1; show _ = _; unfold inL; rw [decide_eq_true (show 0 ≤ u by omega), decide_eq_true (show u < dom by omega)]; rfl
      go_wp2_with (first
        | (go_at_call 59
           with_reducible refine hput.out.mono ?_
           rintro e w3 ⟨a3, c3, rfl, hp3, hb3⟩
           have hK3 : Kp W0 w3 := hA.next hb3
           have p0 : w3.cell? ⟨wr.heap.size, 0, none⟩ = some (.int .i64 v) := (hb3.cell (p := ⟨_, _, none⟩) (by simp)).trans (by go_simp)
           have p1 : w3.cell? ⟨wr.heap.size, 1, none⟩ = some (.int .i64 u) := (hb3.cell (p := ⟨_, _, none⟩) (by simp)).trans (by go_simp)
           have g5 : wr.heap.size < w3.heap.size := by have := hb3.size; simp at this; omega
           have hq3 := hid hp3
           clear hp3 hb3)
        | fail)
      go_roundw
      case rel => exact ⟨k + 1, by omega, by simp, by show _ = _; rw [hsn.out, hno1.out, hwk.out, hi.out, hj.out]; rfl, hK3, a3, c3, by rw [← HX1.out, ← hXs.out], by rw [← HX1.out, ← hXs.out]; exact hq3⟩
      case measure => simp [intOf]; omega
    · obtain rfl : k = l.length := by omega
      have hfin : Hid (waitsL vars dom m b l = true) := hno.out
      go_wp2_with fail
      go_ret
      exact ⟨ret_bool hfin.out.symm, Kp.fin HB.out hK⟩
end Go.Proofs.YtekmcoflagajkaaGreatDoor
