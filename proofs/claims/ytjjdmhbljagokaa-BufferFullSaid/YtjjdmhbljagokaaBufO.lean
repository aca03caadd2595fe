/- What is done to a buffer is what the document says: same. -/
import Derived.Test.YtjjdmhbljagokaaBufE
import Derived.Test.YtjjdmhbljagokaaBufH
import Derived.Test.YtjjdmhbljagokaaBufI
import Derived.Test.YtjjdmhbljagokaaBufM
import Derived.Test.YtjjdmhbljagokaaBufN
namespace Go.Proofs.Ytjjdmhbljagokaa
open Go.RowKit Go.Sort

@[go_sem] theorem eqlEn (a b c d : Int) (w : World) : (binOp .eql 26 (.agg #[.int .i64 a, .int .i64 b]) (.agg #[.int .i64 c, .int .i64 d])).run Try.prog w = .ok (.bool (a == c && b == d)) w := by
  have hS : Try.prog.underlying 26 = some (.struct (Try.prog.fieldsOf 26)) := by kernel_rfl
  have hp : Try.prog.stoodInHeld 26 = false := by kernel_rfl
  rw [run_eql_struct, show (10000 : Nat) = 9999 + 1 from rfl, run_equalIn_agg w 9999 _ _ _ hS hp]
  simp only [Program.fieldsOf, Try.underlying26]
  go_simp
  by_cases h1 : a = c <;> by_cases h2 : b = d <;> simp [h1, h2]

theorem refHeads_any (a : Option Addr) (n cap : Nat) (l : List (Int × Int)) (m : Int) (w : World) (hl : EnIn w (In_ w) a n cap l) (hlen : l.length ≤ 1000) :
    Calls Try.prog 19 #[.slice a n cap, .int .i64 m] w (HeadsPost w (headsL m l)) := by
  rw [heads_eq]
  by_cases hm : m = 2
  · subst hm
    have := refHeads_big a n cap l w hl hlen
    unfold refHeadsL
    rw [if_pos rfl]
    exact this
  · exact refHeads_small a n cap l m hm w hl

theorem same_same (a a' : Option Addr) (n cap n' cap' : Nat) (l : List (Int × Int)) (w : World) (hl : EnIn w (In_ w) a n cap l) (hl' : EnIn w (In_ w) a' n' cap' l) :
    Calls Try.prog 13 #[.slice a n cap, .slice a' n' cap'] w fun e w' => e = .returned (.bool true) ∧ Below w.heap.size w w' := by
  have h := enSame_any a a' n cap n' cap' l l w hl hl'
  simpa using h
theorem ints_same (a a' : Option Addr) (n cap n' cap' : Nat) (l : List Int) (w : World) (hl : IntIn w (In_ w) a n cap l) (hl' : IntIn w (In_ w) a' n' cap' l) :
    Calls Try.prog 18 #[.slice a n cap, .slice a' n' cap'] w fun e w' => e = .returned (.bool true) ∧ Below w.heap.size w w' := by
  have h := ints_any a a' n cap n' cap' l l w hl hl'
  simpa using h

set_option maxRecDepth 100000 in
set_option maxHeartbeats 8000000 in
theorem same_any (a : Option Addr) (n cap : Nat) (l : List (Int × Int)) (m b v x u : Int) (w : World) (hl : EnIn w (In_ w) a n cap l) (hlen : l.length ≤ 1000) :
    Calls Try.prog 8 #[.slice a n cap, .agg #[.int .i64 m, .int .i64 b], .agg #[.int .i64 v, .int .i64 x], .int .i64 u] w fun e w' => e = .returned (.bool true) ∧ Below w.heap.size w w' := by
  have hn := hl.1
  subst hn
  go_enter Try.func8, Try.ntmps8
  go_wp2_with fail
  generalize hW : World.alloc (World.alloc w _) _ = W0
  have hB : Below w.heap.size w W0 := by subst hW; exact ((Below.refl _ _).alloc (Nat.le_refl _) _).alloc (by simp) _
  have z0 : w.heap.size < W0.heap.size := by subst hW; simp; omega
  have z1 : w.heap.size + 1 < W0.heap.size := by subst hW; simp
  have m0 : W0.cell? ⟨w.heap.size, 0, none⟩ = some (.int .i64 m) := by subst hW; go_simp
  have m1 : W0.cell? ⟨w.heap.size, 1, none⟩ = some (.int .i64 b) := by subst hW; go_simp
  have x0 : W0.cell? ⟨w.heap.size + 1, 0, none⟩ = some (.int .i64 v) := by subst hW; go_simp
  have x1 : W0.cell? ⟨w.heap.size + 1, 1, none⟩ = some (.int .i64 x) := by subst hW; go_simp
  clear hW
  have hl0 := hid ((Kp.of hB).en hl)
  have HB := hid hB
  clear hB hl
  generalize hP : putL m b (v, x) l = P
  generalize hL : lookL u l = L
  generalize hT : takeL u l = T
  have HP := hid hP
  have HL := hid hL
  have HT := hid hT
  clear hP hL hT
  go_wp2_with (first
    | (go_at_call 10
       with_reducible refine (put_any a l.length cap l m b v x W0 hl0.out hlen).mono ?_
       rw [HP.out]
       rintro e w1 ⟨a1, c1, rfl, hp1, hb1⟩
       have hk1 : Kp W0 w1 := Kp.of hb1)
    | (go_at_call 15
       with_reducible refine (refPut_any a l.length cap l m b v x w1 (hk1.en hl0.out) hlen).mono ?_
       rw [HP.out]
       rintro e w2 ⟨a2, c2, rfl, hp2, hb2⟩
       have hk2 : Kp W0 w2 := hk1.next hb2)
    | (go_at_call 11
       with_reducible refine (look_any a l.length cap l u w2 (hk2.en hl0.out)).mono ?_
       rw [HL.out]
       rintro e w3 ⟨rfl, hb3⟩
       have hk3 : Kp W0 w3 := hk2.next hb3)
    | (go_at_call 16
       with_reducible refine (refLook_any a l.length cap l u w3 (hk3.en hl0.out)).mono ?_
       rw [HL.out]
       rintro e w4 ⟨rfl, hb4⟩
       have hk4 : Kp W0 w4 := hk3.next hb4)
    | (go_at_call 12
       with_reducible refine (take_any a l.length cap l u w4 (hk4.en hl0.out) hlen).mono ?_
       rw [HT.out]
       rintro e w5 ⟨a5, c5, rfl, hp5, hb5⟩
       have hk5 : Kp W0 w5 := hk4.next hb5)
    | (go_at_call 17
       with_reducible refine (refTake_any a l.length cap l u _ ((hk5.alloc _).en hl0.out) hlen).mono ?_
       rw [HT.out]
       rintro e w6 ⟨a6, c6, rfl, hp6, hb6⟩
       have hk6 : Kp W0 w6 := (hk5.alloc _).next hb6)
    | fail)
  have hk7 : Kp W0 (w6.alloc (.cells #[.int .i64 T.1.1, .int .i64 T.1.2] 26)) := hk6.alloc _
  have q1 := hid ((((((Kp.of hb2).next hb3).next hb4).next hb5 |>.alloc (.cells #[.int .i64 T.1.1, .int .i64 T.1.2] 26)).next hb6 |>.alloc (.cells #[.int .i64 T.1.1, .int .i64 T.1.2] 26)).en hp1)
  have q2 := hid (((((Kp.of hb3).next hb4).next hb5 |>.alloc (.cells #[.int .i64 T.1.1, .int .i64 T.1.2] 26)).next hb6 |>.alloc (.cells #[.int .i64 T.1.1, .int .i64 T.1.2] 26)).en hp2)
  have q5 := hid (((((Kp.refl w5).alloc (.cells #[.int .i64 T.1.1, .int .i64 T.1.2] 26)).next hb6).alloc (.cells #[.int .i64 T.1.1, .int .i64 T.1.2] 26)).en hp5)
  have q6 := hid (((Kp.refl w6).alloc (.cells #[.int .i64 T.1.1, .int .i64 T.1.2] 26)).en hp6)
  have hz6 : w5.heap.size < w6.heap.size := by have := hb6.size; simp at this; omega
  have y0 : (w6.alloc (.cells #[.int .i64 T.1.1, .int .i64 T.1.2] 26)).cell? ⟨w5.heap.size, 0, none⟩ = some (.int .i64 T.1.1) := by
    rw [(((Kp.refl w6).alloc _).2 _ _ hz6), hb6.cell (p := ⟨_, _, none⟩) (by simp)]; go_simp
  have y1 : (w6.alloc (.cells #[.int .i64 T.1.1, .int .i64 T.1.2] 26)).cell? ⟨w5.heap.size, 1, none⟩ = some (.int .i64 T.1.2) := by
    rw [(((Kp.refl w6).alloc _).2 _ _ hz6), hb6.cell (p := ⟨_, _, none⟩) (by simp)]; go_simp
  have y2 : (w6.alloc (.cells #[.int .i64 T.1.1, .int .i64 T.1.2] 26)).cell? ⟨w6.heap.size, 0, none⟩ = some (.int .i64 T.1.1) := by go_simp
  have y3 : (w6.alloc (.cells #[.int .i64 T.1.1, .int .i64 T.1.2] 26)).cell? ⟨w6.heap.size, 1, none⟩ = some (.int .i64 T.1.2) := by go_simp
  have g5 : w5.heap.size < (w6.alloc (.cells #[.int .i64 T.1.1, .int .i64 T.1.2] 26)).heap.size := by simp; omega
  have g6 : w6.heap.size < (w6.alloc (.cells #[.int .i64 T.1.1, .int .i64 T.1.2] 26)).heap.size := by simp
  have mm : (w6.alloc (.cells #[.int .i64 T.1.1, .int .i64 T.1.2] 26)).cell? ⟨w.heap.size, 0, none⟩ = some (.int .i64 m) := (hk7.2 _ _ z0).trans m0
  have q0 := hid (hk7.en hl0.out)
  have g0 : w.heap.size < (w6.alloc (.cells #[.int .i64 T.1.1, .int .i64 T.1.2] 26)).heap.size := by have := hk7.1.size; omega
  have hend := hid (HB.out.trans (hk7.1.mono HB.out.size))
  clear hp1 hp2 hp5 hp6 hb1 hb2 hb3 hb4 hb5 hb6 hk1 hk2 hk3 hk4 hk5 hk6 hk7 hl0 HB HP HL HT hz6 m0 m1 x0 x1
  generalize World.alloc w6 _ = W7 at *
  generalize w5.heap.size = B5 at *
  generalize w6.heap.size = B6 at *
  go_region_held3 (Kp W7)
    (first | exact Kp.start _ | assumption | exact Kp.next (by assumption) hs1 | exact Kp.next (by assumption) hs2 | exact Kp.next (by assumption) hh1 | exact Kp.next (by assumption) hh2 | exact Kp.next (by assumption) hh3)
    (first
      | (go_at_call 13
         with_reducible refine (same_same a1 a2 P.1.length c1 P.1.length c2 P.1 _ ?_ ?_).mono ?_
         (focus exact Kp.en (by assumption) q1.out); (focus exact Kp.en (by assumption) q2.out)
         rintro e ws1 ⟨rfl, hs1⟩)
      | (go_at_call 13
         with_reducible refine (same_same a5 a6 T.2.1.length c5 T.2.1.length c6 T.2.1 _ ?_ ?_).mono ?_
         (focus exact Kp.en (by assumption) q5.out); (focus exact Kp.en (by assumption) q6.out)
         rintro e ws2 ⟨rfl, hs2⟩)
      | (go_at_call 14
         with_reducible refine (heads_any a l.length cap l m _ ?_ hlen).mono ?_
         (focus exact Kp.en (by assumption) q0.out)
         rintro e wh1 ⟨ah1, ch1, rfl, hi1, hh1⟩)
      | (go_at_call 19
         with_reducible refine (refHeads_any a l.length cap l m _ ?_ hlen).mono ?_
         (focus exact Kp.en (by assumption) q0.out)
         rintro e wh2 ⟨ah2, ch2, rfl, hi2, hh2⟩
         have hi3 := (Kp.of hh2).ints hi1)
      | (go_at_call 18
         with_reducible refine (ints_same ah1 ah2 _ ch1 _ ch2 (headsL m l) _ ?_ ?_).mono ?_
         (focus exact hi3); (focus exact hi2)
         rintro e wh3 ⟨rfl, hh3⟩)
      | fail)
  rename_i hKp
  have hend2 := hid (hend.out.trans (hKp.1.mono hend.out.size))
  clear hend hKp q0 q1 q2 q5 q6
  go_wp2_with fail
  go_ret
  exact ⟨rfl, hend2.out⟩
end Go.Proofs.Ytjjdmhbljagokaa
