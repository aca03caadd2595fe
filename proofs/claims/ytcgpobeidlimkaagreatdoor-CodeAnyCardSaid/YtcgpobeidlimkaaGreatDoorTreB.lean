/- The program's word on what expressions may be. -/
import Derived.Test.YtcgpobeidlimkaaGreatDoorTreA
import Derived.Test.YtcgpobeidlimkaaGreatDoorMap
import Derived.Test.YtcgpobeidlimkaaGreatDoorApp
namespace Go.Proofs.YtcgpobeidlimkaaGreatDoor
open Go.RowKit

set_option maxHeartbeats 2000000 in
theorem psign_any (o : Int) (w : World) : Calls Tryz.prog 120 #[.int .u8 o] w fun e w' => e = .returned (.string ⟨(sgn o).toArray⟩) ∧ Below w.heap.size w w' := by
  by_cases hop : isOp o = true
  · have h8 : o = 43 ∨ o = 45 ∨ o = 42 ∨ o = 60 ∨ o = 38 ∨ o = 124 ∨ o = 61 ∨ o = 33 := by
      simp [isOp] at hop
      omega
    have hcv := conv_one
    rcases h8 with rfl | rfl | rfl | rfl | rfl | rfl | rfl | rfl
    all_goals
      clear hop
      go_enter Tryz.func120, Tryz.ntmps120
      go_wp2_with fail
      go_ret
      first
        | exact ⟨rfl, (Below.refl _ _).alloc (Nat.le_refl _) _⟩
        | exact ⟨rfl, Below.refl _ _⟩
  · have e1 : (o == 43) = false := by simp [isOp] at hop; simp [hop]
    have e2 : (o == 45) = false := by simp [isOp] at hop; simp [hop]
    have e3 : (o == 42) = false := by simp [isOp] at hop; simp [hop]
    have e4 : (o == 60) = false := by simp [isOp] at hop; simp [hop]
    have e5 : (o == 38) = false := by simp [isOp] at hop; simp [hop]
    have e6 : (o == 124) = false := by simp [isOp] at hop; simp [hop]
    have e7 : (o == 61) = false := by simp [isOp] at hop; simp [hop]
    have e8 : (o == 33) = false := by simp [isOp] at hop; simp [hop]
    have hs : Hid (sgn o = []) := by show _ = _; unfold sgn; rw [if_neg hop]
    clear hop
    go_enter Tryz.func120, Tryz.ntmps120
    go_wp2_with fail
    go_ret
    exact ⟨by rw [hs.out]; rfl, Below.refl _ _⟩

set_option maxHeartbeats 1000000 in
theorem podd_any (dom : Int) (deep : Nat) (x : Ex) (b1 b2 : Nat) (cs : List Value) (w : World) (hdeep : deep ≤ 1000)
    (ih : ∀ (cs : List Value) (w : World), ExIn w (In_ w) cs x → Calls Tryz.prog 106 #[.agg cs.toArray, .int .i64 deep, .int .i64 dom] w fun e w' => e = .returned (.bool (x.fit dom deep)) ∧ Below w.heap.size w w')
    (hin : ExIn w (In_ w) cs x) (hb1 : b1 < w.heap.size) (c1 : w.cell? ⟨b1, 0, none⟩ = some (.int .i64 ((deep : Int) + 1))) (hb2 : b2 < w.heap.size) (c2 : w.cell? ⟨b2, 0, none⟩ = some (.int .i64 dom)) :
    Calls Tryz.prog 122 #[.agg cs.toArray, .pointer (some ⟨b1, 0, none⟩), .pointer (some ⟨b2, 0, none⟩)] w fun e w' => e = .returned (.bool (!x.fit dom deep)) ∧ Below w.heap.size w w' := by
  obtain ⟨u0, u1, u2, u3, rfl⟩ := hin.four
  have hfb : Below w.heap.size w (w.alloc (.cells #[u0, u1, u2, u3] 46)) := (Below.refl _ _).alloc (Nat.le_refl _) _
  have hX := hid ((Kp.of hfb).ex hin)
  have hw : IntKind.i64.wrap ((deep : Int) + 1 - 1) = (deep : Int) := by rw [show (deep : Int) + 1 - 1 = deep by omega]; exact IntWalk.i64_in _ (by omega)
  have ih := hid ih
  clear hin
  go_enter Tryz.func122, Tryz.ntmps122
  go_wp2_with (first
    | (go_at_call 106
       with_reducible refine (ih.out [u0, u1, u2, u3] _ hX.out).mono ?_
       rintro e w1 ⟨rfl, hb3⟩)
    | fail)
  go_ret
  exact ⟨rfl, hfb.trans (hb3.mono hfb.size)⟩

/-- Some of them is odd: what IndexFunc answers, as to its sign. -/
def IdxPost (w : World) (b : Bool) (e : Ending) (w' : World) : Prop := ∃ r : Int, e = .returned (.int .i64 r) ∧ decide (0 ≤ r) = b ∧ Below w.heap.size w w'

set_option maxHeartbeats 2000000 in
theorem xindex_any (dom : Int) (deep : Nat) (a : Option Addr) (cap : Nat) (l : List Ex) (b1 b2 : Nat) (w : World) (hdeep : deep ≤ 1000)
    (ih : ∀ x, x ∈ l → ∀ (cs : List Value) (w : World), ExIn w (In_ w) cs x → Calls Tryz.prog 106 #[.agg cs.toArray, .int .i64 deep, .int .i64 dom] w fun e w' => e = .returned (.bool (x.fit dom deep)) ∧ Below w.heap.size w w')
    (hlen : l.length ≤ cap) (hmx : cap ≤ maxLen)
    (hin : ∀ i (_ : i < l.length), ∃ b off u0 u1 u2 u3, a = some ⟨b, off, none⟩ ∧ In_ w b ∧ w.cell? ⟨b, off + i * 4, none⟩ = some u0 ∧ w.cell? ⟨b, off + i * 4 + 1, none⟩ = some u1 ∧ w.cell? ⟨b, off + i * 4 + 2, none⟩ = some u2 ∧ w.cell? ⟨b, off + i * 4 + 3, none⟩ = some u3 ∧ ExIn w (In_ w) [u0, u1, u2, u3] l[i])
    (hb1 : b1 < w.heap.size) (c1 : w.cell? ⟨b1, 0, none⟩ = some (.int .i64 ((deep : Int) + 1))) (hb2 : b2 < w.heap.size) (c2 : w.cell? ⟨b2, 0, none⟩ = some (.int .i64 dom)) :
    Calls Tryz.prog 132 #[.slice a l.length cap, .func (.func 122) #[] #[.pointer (some ⟨b1, 0, none⟩), .pointer (some ⟨b2, 0, none⟩)]] w (IdxPost w (l.any fun x => !x.fit dom deep)) := by
  unfold maxLen at hmx
  have ih := hid ih
  have hin := hid hin
  go_enter Tryz.func132, Tryz.ntmps132
  go_wp2_with fail
  go_loopw [8] (fun i wr => ∃ k : Nat, k ≤ l.length ∧ i = .int .i64 k ∧ Hid (((l.take k).any fun x => !x.fit dom deep) = false) ∧ Kp w wr) (fun i _ => l.length - (intOf i).toNat)
  case atStart => exact ⟨0, Nat.zero_le _, rfl, (rfl : _ = _), Kp.refl _⟩
  case round =>
    obtain ⟨k, hk, rfl, hno, hK⟩ := hrel
    by_cases hlt : k < l.length
    · obtain ⟨bb, off, u0, u1, u2, u3, rfl, hbb, e0, e1, e2, e3, hx⟩ := hin.out k hlt
      have hbl := hbb.lt
      have k0 : (0 : Int) ≤ k := by omega
      have k1 : (k : Int) < l.length := by omega
      have g0 := hK.1.size
      have g1 : b1 < wr.heap.size := by omega
      have g2 : b2 < wr.heap.size := by omega
      have g3 : bb < wr.heap.size := by omega
      have c1' : wr.cell? ⟨b1, 0, none⟩ = some (.int .i64 ((deep : Int) + 1)) := (hK.2 _ _ hb1).trans c1
      have c2' : wr.cell? ⟨b2, 0, none⟩ = some (.int .i64 dom) := (hK.2 _ _ hb2).trans c2
      have hcall := hid (podd_any dom deep l[k] b1 b2 [u0, u1, u2, u3] wr hdeep (ih.out l[k] (List.getElem_mem hlt)) (hK.ex hx) g1 c1' g2 c2')
      have htk : Hid (((l.take (k + 1)).any fun x => !x.fit dom deep) = !l[k].fit dom deep) := by
        show _ = _
        rw [List.take_succ_eq_append_getElem hlt, List.any_append, hno.out]
        simp
      have hall : Hid (l[k].fit dom deep = false → (l.any fun x => !x.fit dom deep) = true) := by
        intro h
        exact List.any_eq_true.2 ⟨l[k], List.getElem_mem hlt, by simp [h]⟩
      clear hno hx c1' c2'
      cases hf : l[k].fit dom deep
      · rw [hf] at hcall htk
        go_wp2_with (first
          | (go_at_call 122
             with_reducible refine hcall.out.mono ?_
             rintro e w1 ⟨rfl, hb3⟩)
          | fail)
        go_ret
        exact ⟨k, rfl, by rw [hall.out hf]; simp, hK.1.trans (hb3.mono hK.1.size)⟩
      · rw [hf] at hcall htk
        go_wp2_with (first
          | (go_at_call 122
             with_reducible refine hcall.out.mono ?_
             rintro e w1 ⟨rfl, hb3⟩)
          | fail)
        go_roundw
        case rel => exact ⟨k + 1, by omega, by simp, htk, hK.next hb3⟩
        case measure => simp [intOf]; omega
    · obtain rfl : k = l.length := by omega
      rw [List.take_length] at hno
      go_wp2_with fail
      go_ret
      exact ⟨-1, rfl, by rw [hno.out]; rfl, hK.1⟩

theorem xcontains_any (dom : Int) (deep : Nat) (a : Option Addr) (cap : Nat) (l : List Ex) (b1 b2 : Nat) (w : World) (hdeep : deep ≤ 1000)
    (ih : ∀ x, x ∈ l → ∀ (cs : List Value) (w : World), ExIn w (In_ w) cs x → Calls Tryz.prog 106 #[.agg cs.toArray, .int .i64 deep, .int .i64 dom] w fun e w' => e = .returned (.bool (x.fit dom deep)) ∧ Below w.heap.size w w')
    (hlen : l.length ≤ cap) (hmx : cap ≤ maxLen)
    (hin : ∀ i (_ : i < l.length), ∃ b off u0 u1 u2 u3, a = some ⟨b, off, none⟩ ∧ In_ w b ∧ w.cell? ⟨b, off + i * 4, none⟩ = some u0 ∧ w.cell? ⟨b, off + i * 4 + 1, none⟩ = some u1 ∧ w.cell? ⟨b, off + i * 4 + 2, none⟩ = some u2 ∧ w.cell? ⟨b, off + i * 4 + 3, none⟩ = some u3 ∧ ExIn w (In_ w) [u0, u1, u2, u3] l[i])
    (hb1 : b1 < w.heap.size) (c1 : w.cell? ⟨b1, 0, none⟩ = some (.int .i64 ((deep : Int) + 1))) (hb2 : b2 < w.heap.size) (c2 : w.cell? ⟨b2, 0, none⟩ = some (.int .i64 dom)) :
    Calls Tryz.prog 123 #[.slice a l.length cap, .func (.func 122) #[] #[.pointer (some ⟨b1, 0, none⟩), .pointer (some ⟨b2, 0, none⟩)]] w fun e w' => e = .returned (.bool (l.any fun x => !x.fit dom deep)) ∧ Below w.heap.size w w' := by
  have hcall := hid (xindex_any dom deep a cap l b1 b2 w hdeep ih hlen hmx hin hb1 c1 hb2 c2)
  clear ih hin
  generalize (l.any fun x => !x.fit dom deep) = y at *
  go_enter Tryz.func123, Tryz.ntmps123
  go_wp2_with (first
    | (go_at_call 132
       with_reducible refine hcall.out.mono ?_
       rintro e w1 ⟨r, rfl, hr, hb3⟩)
    | fail)
  go_ret
  exact ⟨rfl, hb3⟩
end Go.Proofs.YtcgpobeidlimkaaGreatDoor
