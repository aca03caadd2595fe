/- The program's word on what code may be. -/
import Derived.Test.YtcgpobeidlimkaaGreatDoorCodA
namespace Go.Proofs.YtcgpobeidlimkaaGreatDoor
open Go.RowKit

set_option maxHeartbeats 2000000 in
theorem oddIns_any (vars dom : Int) (tv : Value) (x : Ins) (bc bl : Nat) (ar : Option Addr) (n kr : Nat) (cs : List Value) (w : World) (hin : InsIn w (In_ w) cs x)
    (hbc : bc < w.heap.size) (c0 : w.cell? ⟨bc, 0, none⟩ = some (.int .i64 vars)) (c1 : w.cell? ⟨bc, 1, none⟩ = some (.int .i64 dom)) (c2 : w.cell? ⟨bc, 2, none⟩ = some tv)
    (hbl : bl < w.heap.size) (d0 : w.cell? ⟨bl, 0, none⟩ = some (.slice ar n kr)) :
    Calls Tryz.prog 38 #[.agg cs.toArray, .pointer (some ⟨bc, 0, none⟩), .pointer (some ⟨bl, 0, none⟩)] w fun e w' => e = .returned (.bool (!insL vars dom x n)) ∧ Below w.heap.size w w' := by
  have hin2 := hin
  obtain ⟨u0, u1, u2, u3, v0, v1, v2, v3, rfl, ha, hb⟩ := hin
  have hfb : Below w.heap.size w (w.alloc (.cells #[.int .i64 x.op, .int .i64 x.reg, .int .i64 x.v, u0, u1, u2, u3, v0, v1, v2, v3, .int .i64 x.to] 48)) := (Below.refl _ _).alloc (Nat.le_refl _) _
  have hcall := hid (insRight_any vars dom n tv x _ _ ((Kp.of hfb).ins hin2))
  clear hin2 ha hb
  generalize insL vars dom x n = r at *
  obtain ⟨op, reg, v, xa, xb, to⟩ := x
  simp only at hfb hcall
  go_enter Tryz.func38, Tryz.ntmps38
  go_wp2_with (first
    | (go_at_call 39; (with_reducible refine hcall.out.mono ?_); rintro e w1 ⟨rfl, hb3⟩)
    | fail)
  go_ret
  exact ⟨rfl, hfb.trans (hb3.mono hfb.size)⟩

set_option maxHeartbeats 4000000 in
theorem insIndex_any (vars dom : Int) (tv : Value) (l : List Ins) (bc bl : Nat) (a : Option Addr) (cap : Nat) (ar : Option Addr) (n kr : Nat) (w : World) (hin : InsRow w (In_ w) a l.length cap l)
    (hbc : bc < w.heap.size) (c0 : w.cell? ⟨bc, 0, none⟩ = some (.int .i64 vars)) (c1 : w.cell? ⟨bc, 1, none⟩ = some (.int .i64 dom)) (c2 : w.cell? ⟨bc, 2, none⟩ = some tv)
    (hbl : bl < w.heap.size) (d0 : w.cell? ⟨bl, 0, none⟩ = some (.slice ar n kr)) :
    Calls Tryz.prog 61 #[.slice a l.length cap, .func (.func 38) #[] #[.pointer (some ⟨bc, 0, none⟩), .pointer (some ⟨bl, 0, none⟩)]] w (IdxPost w (l.any fun x => !insL vars dom x n)) := by
  have hcap := hin.le
  have hmx := hin.mx
  unfold maxLen at hmx
  have hin := hid hin
  go_enter Tryz.func61, Tryz.ntmps61
  go_wp2_with fail
  go_loopw [8] (fun i wr => ∃ k : Nat, k ≤ l.length ∧ i = .int .i64 k ∧ Hid (((l.take k).any fun x => !insL vars dom x n) = false) ∧ Kp w wr) (fun i _ => l.length - (intOf i).toNat)
  case atStart => exact ⟨0, Nat.zero_le _, rfl, (rfl : _ = _), Kp.refl _⟩
  case round =>
    obtain ⟨k, hk, rfl, hno, hK⟩ := hrel
    by_cases hlt : k < l.length
    · obtain ⟨bb, off, u0, u1, u2, u3, v0, v1, v2, v3, rfl, hbb, ⟨e0, e1, e2⟩, ⟨e3, e4, e5, e6⟩, ⟨e7, e8, e9, e10⟩, e11, hxa, hxb⟩ := hin.out.at_ k hlt
      have hbl' := hbb.lt
      have k0 : (0 : Int) ≤ k := by omega
      have k1 : (k : Int) < l.length := by omega
      have g0 := hK.1.size
      have g1 : bc < wr.heap.size := by omega
      have g2 : bl < wr.heap.size := by omega
      have g3 : bb < wr.heap.size := by omega
      have hcall := hid (oddIns_any vars dom tv l[k] bc bl ar n kr [.int .i64 l[k].op, .int .i64 l[k].reg, .int .i64 l[k].v, u0, u1, u2, u3, v0, v1, v2, v3, .int .i64 l[k].to] wr ⟨u0, u1, u2, u3, v0, v1, v2, v3, rfl, hK.ex hxa, hK.ex hxb⟩ g1 ((hK.2 _ _ hbc).trans c0) ((hK.2 _ _ hbc).trans c1) ((hK.2 _ _ hbc).trans c2) g2 ((hK.2 _ _ hbl).trans d0))
      have htk : Hid (((l.take (k + 1)).any fun x => !insL vars dom x n) = !insL vars dom l[k] n) := by
        show _ = _
        rw [List.take_succ_eq_append_getElem hlt, List.any_append, hno.out]
        simp
      have hall : Hid (insL vars dom l[k] n = false → (l.any fun x => !insL vars dom x n) = true) := by
        intro h
        exact List.any_eq_true.2 ⟨l[k], List.getElem_mem hlt, by simp [h]⟩
      clear hno hxa hxb
      cases hf : insL vars dom l[k] n
      · rw [hf] at hcall htk
        go_wp2_with (first
          | (go_at_call 38
             with_reducible refine hcall.out.mono ?_
             rintro e w1 ⟨rfl, hb3⟩)
          | fail)
        go_ret
        exact ⟨k, rfl, by rw [hall.out hf]; simp, hK.1.trans (hb3.mono hK.1.size)⟩
      · rw [hf] at hcall htk
        go_wp2_with (first
          | (go_at_call 38
             with_reducible refine hcall.out.mono ?_
             rintro e w1 ⟨rfl, hb3⟩)
          | fail)
        go_roundw
        case rel => exact ⟨k + 1, by omega, by simp, htk, hK.next hb3⟩
        case measure => simp [intOf]; omega
    · obtain rfl : k = l.length := by omega
      rw [List.take_length] at hno
      go_wp2_with fail
      go_ret
      exact ⟨-1, rfl, by rw [hno.out]; rfl, hK.1⟩

theorem insContains_any (vars dom : Int) (tv : Value) (l : List Ins) (bc bl : Nat) (a : Option Addr) (cap : Nat) (ar : Option Addr) (n kr : Nat) (w : World) (hin : InsRow w (In_ w) a l.length cap l)
    (hbc : bc < w.heap.size) (c0 : w.cell? ⟨bc, 0, none⟩ = some (.int .i64 vars)) (c1 : w.cell? ⟨bc, 1, none⟩ = some (.int .i64 dom)) (c2 : w.cell? ⟨bc, 2, none⟩ = some tv)
    (hbl : bl < w.heap.size) (d0 : w.cell? ⟨bl, 0, none⟩ = some (.slice ar n kr)) :
    Calls Tryz.prog 37 #[.slice a l.length cap, .func (.func 38) #[] #[.pointer (some ⟨bc, 0, none⟩), .pointer (some ⟨bl, 0, none⟩)]] w fun e w' => e = .returned (.bool (l.any fun x => !insL vars dom x n)) ∧ Below w.heap.size w w' := by
  have hcall := hid (insIndex_any vars dom tv l bc bl a cap ar n kr w hin hbc c0 c1 c2 hbl d0)
  clear hin
  generalize (l.any fun x => !insL vars dom x n) = y at *
  go_enter Tryz.func37, Tryz.ntmps37
  go_wp2_with (first
    | (go_at_call 61
       with_reducible refine hcall.out.mono ?_
       rintro e w1 ⟨r, rfl, hr, hb3⟩)
    | fail)
  go_ret
  exact ⟨rfl, hb3⟩
end Go.Proofs.YtcgpobeidlimkaaGreatDoor
