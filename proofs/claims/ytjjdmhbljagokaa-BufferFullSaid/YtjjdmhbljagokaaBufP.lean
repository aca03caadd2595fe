/- awake: the answers at a given buffer. -/
import Derived.Test.YtjjdmhbljagokaaBufO
namespace Go.Proofs.Ytjjdmhbljagokaa
open Go.RowKit Go.Sort

theorem aw1 : putL 2 2 (0, 1) [] = ([(0, 1)], true) := by decide
theorem aw2 : putL 2 2 (1, 2) [(0, 1)] = ([(0, 1), (1, 2)], true) := by decide
theorem aw3 : putL 2 2 (0, 3) [(0, 1), (1, 2)] = ([(0, 1), (1, 2), (0, 3)], true) := by decide
theorem aw4 : putL 2 2 (0, 4) [(0, 1), (1, 2), (0, 3)] = ([(0, 1), (1, 2), (0, 3)], false) := by decide
theorem aw5 : lookL 0 [(0, 1), (1, 2), (0, 3)] = (3, true) := by decide
theorem aw6 : takeL 0 [(0, 1), (1, 2), (0, 3)] = ((0, 1), [(1, 2), (0, 3)], true) := by decide
theorem aw7 : headsL 2 [(0, 1), (1, 2), (0, 3)] = [0, 1] := by rw [heads_eq]; decide
theorem aw8 : headsL 1 [(0, 1), (1, 2), (0, 3)] = [0] := by rw [heads_eq]; decide
theorem aw9 : headsL 0 [(0, 1), (1, 2), (0, 3)] = [] := by rw [heads_eq]; decide

set_option maxRecDepth 100000 in
set_option maxHeartbeats 8000000 in
theorem awake_any (w : World) : Calls Try.prog 7 #[] w fun e w' => e = .returned (.bool true) ∧ Below w.heap.size w w' := by
  obtain ⟨W0, hW⟩ : ∃ W0, W0 = w.alloc (.cells #[.int .i64 2, .int .i64 2] 24) := ⟨_, rfl⟩
  have HB : Hid (Below w.heap.size w W0) := by rw [hW]; exact (Below.refl _ _).alloc (Nat.le_refl _) _
  have z0 : w.heap.size < W0.heap.size := by subst hW; simp
  have m0 : W0.cell? ⟨w.heap.size, 0, none⟩ = some (.int .i64 2) := by subst hW; go_simp
  have m1 : W0.cell? ⟨w.heap.size, 1, none⟩ = some (.int .i64 2) := by subst hW; go_simp
  go_enter Try.func7, Try.ntmps7
  go_wp2_with (first
    | (go_at_call 10
       rw [← hW]
       with_reducible refine (put_any none 0 0 [] 2 2 0 1 W0 EnIn.nil_ (by simp)).mono ?_
       rw [aw1]
       rintro e w1 ⟨a1, c1, rfl, hp1, hb1⟩
       have hk1 : Kp W0 w1 := Kp.of hb1
       have hp1 : EnIn w1 (In_ w1) a1 1 c1 [(0, 1)] := hp1)
    | (go_at_call 10
       with_reducible refine (put_any a1 1 c1 [(0, 1)] 2 2 1 2 w1 hp1 (by simp)).mono ?_
       rw [aw2]
       rintro e w2 ⟨a2, c2, rfl, hp2, hb2⟩
       have hk2 : Kp W0 w2 := hk1.next hb2
       have hp2 : EnIn w2 (In_ w2) a2 2 c2 [(0, 1), (1, 2)] := hp2)
    | (go_at_call 10
       with_reducible refine (put_any a2 2 c2 [(0, 1), (1, 2)] 2 2 0 3 w2 hp2 (by simp)).mono ?_
       rw [aw3]
       rintro e w3 ⟨a3, c3, rfl, hp3, hb3⟩
       have hk3 : Kp W0 w3 := hk2.next hb3
       have hp3 : EnIn w3 (In_ w3) a3 3 c3 [(0, 1), (1, 2), (0, 3)] := hp3)
    | (go_at_call 10
       with_reducible refine (put_any a3 3 c3 [(0, 1), (1, 2), (0, 3)] 2 2 0 4 w3 hp3 (by simp)).mono ?_
       rw [aw4]
       rintro e w4 ⟨a4, c4, rfl, hp4, hb4⟩
       have hk4 : Kp w3 w4 := Kp.of hb4
       have hB4 := hid (hk3.1.trans (hb4.mono hk3.1.size)))
    | (go_at_call 11
       with_reducible refine (look_any a3 3 c3 [(0, 1), (1, 2), (0, 3)] 0 w4 (hk4.en hp3)).mono ?_
       rw [aw5]
       rintro e w5 ⟨rfl, hb5⟩
       have hk5 : Kp w3 w5 := hk4.next hb5
       have hB5 := hid (hB4.out.trans (hb5.mono hB4.out.size)))
    | (go_at_call 12
       with_reducible refine (take_any a3 3 c3 [(0, 1), (1, 2), (0, 3)] 0 w5 (hk5.en hp3) (by simp)).mono ?_
       rw [aw6]
       rintro e w6 ⟨a6, c6, rfl, hp6, hb6⟩
       have hk6 : Kp w3 w6 := hk5.next hb6
       have hB6 := hid (hB5.out.trans (hb6.mono hB5.out.size)))
    | fail)
  have hkA : Kp w3 (w6.alloc (.cells #[.int .i64 0, .int .i64 1] 26)) := hk6.alloc _
  have hBA := hid (hB6.out.alloc hB6.out.size (.cells #[.int .i64 0, .int .i64 1] 26))
  have n0 : (w6.alloc (.cells #[.int .i64 0, .int .i64 1] 26)).cell? ⟨w6.heap.size, 1, none⟩ = some (.int .i64 1) := by go_simp
  have n1 : w6.heap.size < (w6.alloc (.cells #[.int .i64 0, .int .i64 1] 26)).heap.size := by simp
  generalize World.alloc w6 _ = W7 at *
  generalize w6.heap.size = B6 at *
  clear hk1 hk2 hk3 hk4 hk5 hk6 hb1 hb2 hb3 hb4 hb5 hb6 hB4 hB5 hB6 hp1 hp2 hp4 hp6 m0 m1 z0 hW
  go_wp2_with (first
    | (go_at_call 14
       with_reducible refine (heads_any a3 3 c3 [(0, 1), (1, 2), (0, 3)] 2 W7 (hkA.en hp3) (by simp)).mono ?_
       rw [aw7]
       rintro e w8 ⟨a8, c8, rfl, hp8, hb8⟩
       have hk8 : Kp W7 w8 := Kp.of hb8
       have hK8 : Kp w3 w8 := hkA.next hb8
       have hB8 := hid (hBA.out.trans (hb8.mono hBA.out.size))
       have n2 : w8.cell? ⟨B6, 1, none⟩ = some (.int .i64 1) := (hk8.2 _ _ n1).trans n0
       have hp8 : IntIn w8 (In_ w8) a8 2 c8 [0, 1] := hp8
       obtain ⟨bb, off, rfl, hbb, d0⟩ := hp8.at_ 0 (by simp)
       obtain ⟨bb', off', e, _, d1⟩ := hp8.at_ 1 (by simp)
       obtain ⟨rfl, rfl⟩ : bb = bb' ∧ off = off' := by simpa using e
       clear e hkA n0 hk8 hb8 hBA hp8
       simp only [Nat.add_zero, List.getElem_cons_zero, List.getElem_cons_succ] at d0 d1)
    | (go_at_call 14
       with_reducible refine (heads_any a3 3 c3 [(0, 1), (1, 2), (0, 3)] 1 w8 (hK8.en hp3) (by simp)).mono ?_
       rw [aw8]
       rintro e w9 ⟨a9, c9, rfl, hp9, hb9⟩
       have hK9 : Kp w3 w9 := hK8.next hb9
       have hB9 := hid (hB8.out.trans (hb9.mono hB8.out.size)))
    | (go_at_call 14
       with_reducible refine (heads_any a3 3 c3 [(0, 1), (1, 2), (0, 3)] 0 w9 (hK9.en hp3) (by simp)).mono ?_
       rw [aw9]
       rintro e w10 ⟨a10, c10, rfl, hp10, hb10⟩
       have hB10 := hid (hB9.out.trans (hb10.mono hB9.out.size)))
    | fail)
  go_ret
  exact ⟨rfl, HB.out.trans (hB10.out.mono HB.out.size)⟩
end Go.Proofs.Ytjjdmhbljagokaa
