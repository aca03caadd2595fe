/- BufferFull: the walk. -/
import Derived.Test.YtjjdmhbljagokaaBufP
import Derived.Test.YtjjdmhbljagokaaBufT
import Derived.Test.YtjjdmhbljagokaaBufV
namespace Go.Proofs.Ytjjdmhbljagokaa
open Go.RowKit Go.Sort

/-- How many stores stand against the bound, by the flag. -/
def cntB (mo : Bool) (v : Int) (X : List (Int × Int)) : Nat := match mo with | false => X.length | true => cnt 2 v X
theorem cnt_one (v : Int) (X : List (Int × Int)) : cnt 1 v X = X.length := by
  unfold cnt
  simp
theorem put_room (m b : Int) (hm : m = 1 ∨ m = 2) (x : Int × Int) (X : List (Int × Int)) (h : (cnt m x.1 X : Int) < b) : putL m b x X = (X ++ [x], true) := by
  unfold putL
  rw [if_neg (by omega)]
theorem put_none (m b : Int) (x : Int × Int) (X : List (Int × Int)) (h : ¬ (cnt m x.1 X : Int) < b) : putL m b x X = (X, false) := by
  unfold putL
  rw [if_pos (by omega)]

/-- The counts of the variables lie at q. -/
structure Many (w : World) (q : Nat) (X : List (Int × Int)) : Prop where
  lt : q < w.heap.size
  cells : ∀ v : Nat, v < 3 → w.cell? ⟨q, v, none⟩ = some (.int .i64 (cnt 2 v X))
  free : ∀ v : Nat, v < 3 → w.frozen? ⟨q, v, none⟩ = false
theorem Many.keep {w w' : World} {q : Nat} {X : List (Int × Int)} (h : Many w q X) (hb : Below w.heap.size w w') : Many w' q X :=
  ⟨Nat.lt_of_lt_of_le h.lt hb.size, fun v hv => (hb.cell (p := ⟨_, _, none⟩) h.lt).trans (h.cells v hv), fun v hv => (hb.frozen (p := ⟨_, _, none⟩) h.lt).trans (h.free v hv)⟩
theorem Many.put {w : World} {q : Nat} {X : List (Int × Int)} (h : Many w q X) (v : Nat) (hv : v < 3) (u c : Int) (hc : c = (cnt 2 v X : Int) + 1) : Many (w.setCell ⟨q, v, none⟩ (.int .i64 c)) q (X ++ [((v : Int), u)]) := by
  refine ⟨by simpa using h.lt, fun t ht => ?_, fun t ht => by rw [World.frozen?_setCell]; exact h.free t ht⟩
  rw [cnt_snoc]
  by_cases htv : t = v
  · subst htv
    have := h.cells t ht
    go_simp
  · have := h.cells t ht
    have hne : ¬ ((v : Int) = (t : Int)) := by omega
    have hne2 : ¬ (v = t) := fun h => htv h.symm
    go_simp

theorem en_ne {w w' : World} {zr q n c : Nat} {a : Option Addr} {l : List (Int × Int)} (h : EnIn w' (fun b => (b < zr ∧ b ≠ q) ∨ w.heap.size ≤ b ∧ b < w'.heap.size) a n c l) (h1 : zr ≤ w.heap.size) (hq : q < zr) (h2 : w.heap.size ≤ w'.heap.size) :
    EnIn w' (fun b => b < w'.heap.size ∧ b ≠ q) a n c l :=
  h.widen fun _ hb => by
    rcases hb with ⟨h3, h4⟩ | ⟨h3, h4⟩
    · exact ⟨by omega, h4⟩
    · exact ⟨h4, by omega⟩
theorem en_set {w : World} {q o n c : Nat} {a : Option Addr} {l : List (Int × Int)} (h : EnIn w (fun b => b < w.heap.size ∧ b ≠ q) a n c l) (y : Value) :
    EnIn (w.setCell ⟨q, o, none⟩ y) (fun b => b < (w.setCell ⟨q, o, none⟩ y).heap.size ∧ b ≠ q) a n c l :=
  (h.keep fun b p hb => by
    have hne : ¬ q = b := fun h => hb.2 h.symm
    go_simp).widen fun _ hb => by simpa using hb
theorem en_keep {w w' : World} {q n c : Nat} {a : Option Addr} {l : List (Int × Int)} (h : EnIn w (fun b => b < w.heap.size ∧ b ≠ q) a n c l) (hk : Kp w w') :
    EnIn w' (fun b => b < w'.heap.size ∧ b ≠ q) a n c l :=
  (h.keep fun _ _ hb => hk.2 _ _ hb.1).widen fun _ hb => ⟨Nat.lt_of_lt_of_le hb.1 hk.1.size, hb.2⟩
theorem Kp.setq {W0 w : World} (h : Kp W0 w) {q : Nat} (hq : W0.heap.size ≤ q) (o : Nat) (y : Value) : Kp W0 (w.setCell ⟨q, o, none⟩ y) := .of (h.1.setCell hq _)

set_option maxRecDepth 100000 in
set_option maxHeartbeats 16000000 in
theorem bufferFull_walk (a : Option Addr) (n cap : Nat) (cs : List Nat) (mo : Bool) (bd : Int) (w : World) (hl : ByIn w (In_ w) a n cap cs) :
    Calls Try.prog 6 #[.slice a n cap, .bool mo, .int .u8 bd] w fun e w' => e = .returned (.bool true) ∧ Below w.heap.size w w' := by
  have hn := hl.1
  subst hn
  have hl0 := hid hl
  clear hl
  go_enter Try.func6, Try.ntmps6
  obtain ⟨mq, hmq⟩ : ∃ mq, mq = mo := ⟨_, rfl⟩
  cases mo
  all_goals
    go_wp2_with (first
      | (go_at_call 7
         with_reducible refine (awake_any w).mono ?_
         rintro e w1 ⟨rfl, hb1⟩)
      | fail)
    generalize hW : World.alloc w1 _ = W0
    have hB : Below w.heap.size w W0 := by subst hW; exact hb1.alloc hb1.size _
    have z0 : w1.heap.size < W0.heap.size := by subst hW; simp
    have zw : w.heap.size ≤ w1.heap.size := hb1.size
    obtain ⟨bm, m1⟩ : ∃ bm : Int, W0.cell? ⟨w1.heap.size, 1, none⟩ = some (.int .i64 bm) := ⟨(wrap64 bd).tmod 9, by subst hW; go_simp⟩
    obtain ⟨m, hm12, hcm, m0⟩ : ∃ m : Int, (m = 1 ∨ m = 2) ∧ (∀ v X, cnt m v X = cntB mq v X) ∧ W0.cell? ⟨w1.heap.size, 0, none⟩ = some (.int .i64 m) := by
      subst hmq
      first
        | (refine ⟨1, .inl rfl, fun v X => cnt_one v X, ?_⟩; subst hW; go_simp; done)
        | (refine ⟨2, .inr rfl, fun v X => rfl, ?_⟩; subst hW; go_simp; done)
    generalize w1.heap.size = mb at *
    rw [hmq] at hcm
    simp only [cntB] at hcm
    clear hmq
    clear hW hb1
    refine (made_any a cs.length cap cs W0 ((Kp.of hB).bytes hl0.out)).mono ?_
    rintro e w2 ⟨a2, c2, rfl, hx2, hb2⟩
    have hx12 := madeL_len cs
    have hvar := hid (madeL_var cs)
    generalize madeL cs = x at *
    have n0 : w2.cell? ⟨mb, 0, none⟩ = some (.int .i64 m) := (hb2.cell (p := ⟨_, _, none⟩) z0).trans m0
    have n1 : w2.cell? ⟨mb, 1, none⟩ = some (.int .i64 bm) := (hb2.cell (p := ⟨_, _, none⟩) z0).trans m1
    have z2 : mb < w2.heap.size := Nat.lt_of_lt_of_le z0 hb2.size
    have HB := hid (hB.trans (hb2.mono hB.size))
    have hx := hid hx2
    have hcap2 := hx2.2.le
    have hmx2 := hx2.2.mx
    unfold maxLen at hmx2
    clear m0 m1 z0 zw hB hb2 hx2 hl0
    go_wp2_with fail
    have hM0 : Many (w2.alloc (.cells #[.int .i64 0, .int .i64 0, .int .i64 0] 39)) w2.heap.size [] := by
      refine ⟨by simp, fun v hv => ?_, fun v hv => ?_⟩
      · obtain rfl | rfl | rfl : v = 0 ∨ v = 1 ∨ v = 2 := by omega
        all_goals go_simp; rfl
      · go_simp
    have hK0 : Kp w2 (w2.alloc (.cells #[.int .i64 0, .int .i64 0, .int .i64 0] 39)) := (Kp.refl w2).alloc _
    generalize World.alloc w2 _ = W3 at *
    generalize hQ : w2.heap.size = q at *
    go_loopw [10, 12] (fun o i wr => ∃ k : Nat, k ≤ x.length ∧ i = .int .i64 k ∧ Kp w2 wr ∧ ∃ X a1 c1, o = .slice a1 X.length c1 ∧ X.length ≤ k ∧ Hid (EnIn wr (fun b => b < wr.heap.size ∧ b ≠ q) a1 X.length c1 X) ∧ Many wr q X) (fun _ i _ => x.length - (intOf i).toNat)
    case atStart => exact ⟨0, Nat.zero_le _, rfl, hK0, [], none, 0, rfl, Nat.le_refl _, EnIn.nil_, hM0⟩
    case round =>
      clear hM0 hK0
      obtain ⟨k, hk, rfl, hK, X, a1, c1, rfl, hXl, hO, hM⟩ := hrel
      by_cases hlt : k < x.length
      · obtain ⟨bb, off, rfl, hbb, e0, e1⟩ := hx.out.at_ k hlt
        have hv1 := hvar.out x[k] (List.getElem_mem hlt)
        have k0 : (0 : Int) ≤ k := by omega
        have k1 : (k : Int) < x.length := by omega
        generalize hxk : x[k] = xk at *
        obtain ⟨x1, u⟩ := xk
        obtain ⟨v, hv⟩ : ∃ v : Nat, x1 = v := ⟨x1.toNat, by have := hv1.1; simp only at this; omega⟩
        subst hv
        have hv3 : v < 3 := by have := hv1.2; simp only at this; omega
        have v1 : (v : Int) < 3 := by omega
        have v0 : (0 : Int) ≤ v := by omega
        clear hv1 hxk
        have hbl : bb < q := by rw [← hQ]; exact hbb.lt
        have g0 : q < wr.heap.size := hM.lt
        have e0' : wr.cell? ⟨bb, off + k * 2, none⟩ = some (.int .i64 v) := (hK.2 _ _ hbb.lt).trans e0
        have e1' : wr.cell? ⟨bb, off + k * 2 + 1, none⟩ = some (.int .i64 u) := (hK.2 _ _ hbb.lt).trans e1
        have n0' : wr.cell? ⟨mb, 0, none⟩ = some (.int .i64 m) := (hK.2 _ _ (by rw [hQ]; exact z2)).trans n0
        have n1' : wr.cell? ⟨mb, 1, none⟩ = some (.int .i64 bm) := (hK.2 _ _ (by rw [hQ]; exact z2)).trans n1
        have g2 : bb < wr.heap.size := by omega
        have g3 : mb < wr.heap.size := by omega
        have q0 := hM.cells v hv3
        have f0 := hM.free v hv3
        have hle : Hid (X.length ≤ 1000) := by show _ ≤ _; omega
        have hw : IntKind.i64.wrap ((cnt 2 v X : Int) + 1) = (cnt 2 v X : Int) + 1 := IntWalk.i64_in _ (by have := cnt_le 2 v X; omega)
        have HM := hid hM
        have HK := hid hK
        clear hM hK
        by_cases hr : (cnt m v X : Int) < bm
        · have hput := hid (put_room m bm hm12 ((v : Int), u) X hr)
          rw [hcm] at hr
          go_wp2_with fail
          go_region_held3 (Kp wr)
            (first | exact Kp.start _ | assumption | exact Kp.next (by assumption) hb3)
            (first
              | (go_at_call 10
                 with_reducible refine (put_anyS (fun b => b < wr.heap.size ∧ b ≠ q) a1 X.length c1 X m bm v u _ ?_ ?_ hle.out).mono ?_
                 (focus (intro b hb; exact Nat.lt_of_lt_of_le hb.1 (Kp.size_ (W0 := wr) (by assumption))))
                 (focus exact hO.out.keep fun _ _ hb => (show Kp wr _ by assumption).2 _ _ hb.1)
                 rw [hput.out]
                 rintro e w3 ⟨a3, c3, rfl, hp3, hb3⟩
                 have hp4 := hid (en_ne hp3 (Kp.size_ (W0 := wr) (by assumption)) g0 hb3.size))
              | fail)
          rename_i hKp
          have HE := hp4
          clear hp3 hp4 hb3 hput hO hle
          have HK3 := hid (HK.out.next hKp.1)
          have HM3 := hid (HM.out.keep hKp.1)
          have e0'' : w3.cell? ⟨bb, off + k * 2, none⟩ = some (.int .i64 v) := (hKp.2 _ _ g2).trans e0'
          have n1'' : w3.cell? ⟨mb, 1, none⟩ = some (.int .i64 bm) := (hKp.2 _ _ g3).trans n1'
          have q0' : w3.cell? ⟨q, v, none⟩ = some (.int .i64 (cnt 2 v X)) := (hKp.2 _ _ g0).trans q0
          have f0' : w3.frozen? ⟨q, v, none⟩ = false := (hKp.1.frozen (p := ⟨_, _, none⟩) g0).trans f0
          have s0 := hKp.1.size
          have g2' : bb < w3.heap.size := by omega
          have g3' : mb < w3.heap.size := by omega
          have g0' : q < w3.heap.size := by omega
          clear hKp HM HK
          go_wp2_with fail
          go_roundw
          case rel => exact ⟨k + 1, by omega, by simp, HK3.out.setq (by rw [hQ]; exact Nat.le_refl _) _ _, X ++ [((v : Int), u)], a3, c3, by simp, by simp; omega, en_set HE.out _, HM3.out.put v hv3 u _ rfl⟩
          case measure => simp [intOf]; omega
        · have hput := hid (put_none m bm ((v : Int), u) X hr)
          rw [hcm] at hr
          have hr2 : decide _ = false := decide_eq_false hr
          clear hr
          go_wp2_with fail
          go_region_held3 (Kp wr)
            (first | exact Kp.start _ | assumption | exact Kp.next (by assumption) hb3)
            (first
              | (go_at_call 10
                 with_reducible refine (put_anyS (fun b => b < wr.heap.size ∧ b ≠ q) a1 X.length c1 X m bm v u _ ?_ ?_ hle.out).mono ?_
                 (focus (intro b hb; exact Nat.lt_of_lt_of_le hb.1 (Kp.size_ (W0 := wr) (by assumption))))
                 (focus exact hO.out.keep fun _ _ hb => (show Kp wr _ by assumption).2 _ _ hb.1)
                 rw [hput.out]
                 rintro e w3 ⟨a3, c3, rfl, hp3, hb3⟩
                 have hp4 := hid (en_ne hp3 (Kp.size_ (W0 := wr) (by assumption)) g0 hb3.size))
              | fail)
          rename_i hKp
          have HE := hp4
          have HO3 := hid (en_keep hO.out hKp)
          clear hp3 hp4 hb3 hput hO hle
          have HK3 := hid (HK.out.next hKp.1)
          have HM3 := hid (HM.out.keep hKp.1)
          have n1'' : w3.cell? ⟨mb, 1, none⟩ = some (.int .i64 bm) := (hKp.2 _ _ g3).trans n1'
          have s0 := hKp.1.size
          have g3' : mb < w3.heap.size := by omega
          have i1 : Hid (EnIn w3 (In_ w3) a1 X.length c1 X) := HO3.out.widen fun _ hb => hb.1
          have i2 : Hid (EnIn w3 (In_ w3) a3 X.length c3 X) := HE.out.widen fun _ hb => hb.1
          clear hKp HM HK
          go_wp2_with (first
            | (go_at_call 13
               with_reducible refine (same_same a1 a3 X.length c1 X.length c3 X w3 i1.out i2.out).mono ?_
               rintro e w4 ⟨rfl, hb4⟩
               have HK4 := hid (HK3.out.next hb4)
               have HE4 := hid (en_keep HE.out (Kp.of hb4))
               have HM4 := hid (HM3.out.keep hb4))
            | fail)
          go_roundw
          case rel => exact ⟨k + 1, by omega, by simp, HK4.out, X, a3, c3, rfl, by omega, HE4.out, HM4.out⟩
          case measure => simp [intOf]; omega
      · obtain rfl : k = x.length := by omega
        go_wp2_with fail
        go_ret
        exact ⟨rfl, HB.out.trans (hK.1.mono HB.out.size)⟩
end Go.Proofs.Ytjjdmhbljagokaa
