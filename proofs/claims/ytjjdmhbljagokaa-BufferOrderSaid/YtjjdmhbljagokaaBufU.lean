/- BufferOrder: the walk. -/
import Derived.Test.YtjjdmhbljagokaaBufP
import Derived.Test.YtjjdmhbljagokaaBufT
namespace Go.Proofs.Ytjjdmhbljagokaa
open Go.RowKit Go.Sort

set_option maxRecDepth 100000 in
set_option maxHeartbeats 16000000 in
theorem bufferOrder_walk (a : Option Addr) (n cap : Nat) (cs : List Nat) (mo : Bool) (w : World) (hl : ByIn w (In_ w) a n cap cs) :
    Calls Try.prog 5 #[.slice a n cap, .bool mo] w fun e w' => e = .returned (.bool true) ∧ Below w.heap.size w w' := by
  have hn := hl.1
  subst hn
  have hl0 := hid hl
  clear hl
  go_enter Try.func5, Try.ntmps5
  cases mo
  all_goals
    go_wp2_with (first
      | (go_at_call 7
         with_reducible refine (awake_any w).mono ?_
         rintro e w1 ⟨rfl, hb1⟩)
      | fail)
    generalize hW : World.alloc w1 _ = W0
    have hB : Below w.heap.size w W0 := by subst hW; exact hb1.alloc hb1.size _
    have z0 : w1.heap.size < W0.heap.size := by subst hW; simp
    have zw : w.heap.size ≤ w1.heap.size := hb1.size
    have m1 : W0.cell? ⟨w1.heap.size, 1, none⟩ = some (.int .i64 12) := by subst hW; go_simp
    obtain ⟨m, hm12, m0⟩ : ∃ m : Int, (m = 1 ∨ m = 2) ∧ W0.cell? ⟨w1.heap.size, 0, none⟩ = some (.int .i64 m) := by
      first
        | (refine ⟨1, .inl rfl, ?_⟩; subst hW; go_simp; done)
        | (refine ⟨2, .inr rfl, ?_⟩; subst hW; go_simp; done)
    generalize w1.heap.size = mb at *
    clear hW hb1
    refine (made_any a cs.length cap cs W0 ((Kp.of hB).bytes hl0.out)).mono ?_
    rintro e w2 ⟨a2, c2, rfl, hx2, hb2⟩
    have hx12 := madeL_len cs
    have hvar := hid (madeL_var cs)
    generalize madeL cs = x at *
    have n0 : w2.cell? ⟨mb, 0, none⟩ = some (.int .i64 m) := (hb2.cell (p := ⟨_, _, none⟩) z0).trans m0
    have n1 : w2.cell? ⟨mb, 1, none⟩ = some (.int .i64 12) := (hb2.cell (p := ⟨_, _, none⟩) z0).trans m1
    have z2 : mb < w2.heap.size := Nat.lt_of_lt_of_le z0 hb2.size
    have HB := hid (hB.trans (hb2.mono hB.size))
    have hx := hid hx2
    have hcap2 := hx2.2.le
    have hmx2 := hx2.2.mx
    unfold maxLen at hmx2
    clear m0 m1 z0 zw hB hb2 hx2 hl0
    go_wp2_with fail
    go_loopw [8, 9] (fun o i wr => ∃ k : Nat, k ≤ x.length ∧ i = .int .i64 k ∧ Kp w2 wr ∧ ∃ a1 c1, o = .slice a1 (x.take k).length c1 ∧ Hid (EnIn wr (In_ wr) a1 (x.take k).length c1 (x.take k))) (fun _ i _ => x.length - (intOf i).toNat)
    case atStart => exact ⟨0, Nat.zero_le _, rfl, Kp.refl _, none, 0, rfl, EnIn.nil_⟩
    case round =>
      obtain ⟨k, hk, rfl, hK, a1, c1, rfl, hO⟩ := hrel
      by_cases hlt : k < x.length
      · obtain ⟨bb, off, rfl, hbb, e0, e1⟩ := hx.out.at_ k hlt
        obtain ⟨X1, hX1⟩ : ∃ X1, X1 = x.take (k + 1) := ⟨_, rfl⟩
        have hput := put_ok m hm12 x hx12 k hlt
        have hlk := look_ok x k hlt
        rw [← hX1] at hput hlk
        have hput := hid hput
        have hlk := hid hlk
        have HX1 := hid hX1
        clear hX1
        have hle : Hid ((x.take k).length ≤ 1000) := by show _ ≤ _; rw [List.length_take]; omega
        have hbl := hbb.lt
        have g0 := hK.1.size
        have k0 : (0 : Int) ≤ k := by omega
        have k1 : (k : Int) < x.length := by omega
        have e0' : wr.cell? ⟨bb, off + k * 2, none⟩ = some (.int .i64 x[k].1) := (hK.2 _ _ hbl).trans e0
        have e1' : wr.cell? ⟨bb, off + k * 2 + 1, none⟩ = some (.int .i64 x[k].2) := (hK.2 _ _ hbl).trans e1
        have n0' : wr.cell? ⟨mb, 0, none⟩ = some (.int .i64 m) := (hK.2 _ _ z2).trans n0
        have n1' : wr.cell? ⟨mb, 1, none⟩ = some (.int .i64 12) := (hK.2 _ _ z2).trans n1
        have g2 : bb < wr.heap.size := by omega
        have g3 : mb < wr.heap.size := by omega
        have HK := hid hK
        clear hK
        generalize x.take k = X at *
        go_wp2_with fail
        go_region_held3 (Kp wr)
          (first | exact Kp.start _ | assumption | exact Kp.next (by assumption) hb3)
          (first
            | (go_at_call 10
               with_reducible refine (put_any a1 X.length c1 X m 12 x[k].1 x[k].2 _ ?_ hle.out).mono ?_
               (focus exact Kp.en (by assumption) hO.out)
               rw [hput.out]
               rintro e w3 ⟨a3, c3, rfl, hp3, hb3⟩)
            | fail)
        rename_i hKp
        have hq0 : Hid (EnIn w3 (In_ w3) a3 X1.length c3 X1) := hp3
        clear hp3 hb3 hO hput hle
        go_wp2_with (first
          | (go_at_call 11
             with_reducible refine (look_any a3 X1.length c3 X1 x[k].1 w3 hq0.out).mono ?_
             rw [hlk.out]
             rintro e w4 ⟨rfl, hb4⟩
             have hK4 : Kp wr w4 := hKp.next hb4
             have hq1 : Hid (EnIn w4 (In_ w4) a3 X1.length c3 X1) := (Kp.of hb4).en hq0.out
             clear hKp hb4)
          | fail)
        have HK4 := hid (HK.out.next hK4.1)
        clear hK4
        go_roundw
        case rel => exact ⟨k + 1, by omega, by simp, HK4.out, a3, c3, by rw [← HX1.out], by rw [← HX1.out]; exact hq1⟩
        case measure => simp [intOf]; omega
      · obtain rfl : k = x.length := by omega
        rw [List.take_length] at hO
        simp only [List.take_length]
        have g0 := hK.1.size
        have g3 : mb < wr.heap.size := by omega
        have h00 := restL_start x (fun y hy => (hvar.out y hy).1)
        have hO2 : Hid (EnIn wr (In_ wr) a1 (restL x ((0 : Nat) : Int) 0).length c1 (restL x ((0 : Nat) : Int) 0)) := by show EnIn _ _ _ _ _ _; rw [show restL x ((0 : Nat) : Int) 0 = x from h00]; exact hO.out
        have h01 : Hid (x.length = (restL x ((0 : Nat) : Int) 0).length) := by show _ = _; rw [show restL x ((0 : Nat) : Int) 0 = x from h00]
        clear h00 hO
        go_wp2_with fail
        go_loopw [8, 14] (fun o vv wr => ∃ v : Nat, v ≤ 3 ∧ vv = .int .i64 v ∧ Kp w2 wr ∧ ∃ a1 c1, o = .slice a1 (restL x v 0).length c1 ∧ Hid (EnIn wr (In_ wr) a1 (restL x v 0).length c1 (restL x v 0))) (fun _ vv _ => 3 - (intOf vv).toNat)
        case atStart => exact ⟨0, by omega, rfl, hK, a1, c1, by rw [← h01.out], hO2⟩
        case round =>
          clear hO2 h01 hK g0 g3
          obtain ⟨v, hv, rfl, hK, a3, c3, rfl, hO⟩ := hrel
          by_cases hv3 : v < 3
          · have v0 : (v : Int) < 3 := by omega
            go_wp2_with fail
            go_loopw [8, 15] (fun o ii wr => ∃ i : Nat, i ≤ x.length ∧ ii = .int .i64 i ∧ Kp w2 wr ∧ ∃ a1 c1, o = .slice a1 (restL x v i).length c1 ∧ Hid (EnIn wr (In_ wr) a1 (restL x v i).length c1 (restL x v i))) (fun _ ii _ => x.length - (intOf ii).toNat)
            case atStart => exact ⟨0, Nat.zero_le _, rfl, hK, a3, c3, rfl, hO⟩
            case round =>
              clear hO hK
              obtain ⟨i, hi, rfl, hK, a4, c4, rfl, hO⟩ := hrel
              have hle := hid (Nat.le_trans (restL_le x v i) (Nat.le_trans hx12 (by omega : (12 : Nat) ≤ 1000)))
              by_cases hlt : i < x.length
              · obtain ⟨bb, off, rfl, hbb, e0, e1⟩ := hx.out.at_ i hlt
                have hbl := hbb.lt
                have g0 := hK.1.size
                have k0 : (0 : Int) ≤ i := by omega
                have k1 : (i : Int) < x.length := by omega
                have g2 : bb < wr.heap.size := by omega
                by_cases hne : x[i].1 = v
                · have hb1 : (x[i].1 != (v : Int)) = false := by rw [bne_eq_false_iff_eq]; exact hne
                  obtain ⟨R2, hR2⟩ : ∃ R2, R2 = restL x v (i + 1) := ⟨_, rfl⟩
                  have htk := restL_hit x v i hlt hne
                  have hln := restL_len x v i hlt hne
                  rw [← hR2] at htk hln
                  have htk := hid htk
                  have HR2 := hid hR2
                  have Hne := hid hne
                  clear hR2 hne
                  generalize restL x v i = R1 at *
                  have hw : IntKind.i64.wrap ((R1.length : Int) - 1) = (R1.length : Int) - 1 := IntWalk.i64_in _ (by have := hle.out; omega)
                  have hsub : ((R2.length : Int) != (R1.length : Int) - 1) = false := by rw [bne_eq_false_iff_eq]; omega
                  clear hln
                  go_wp2_with (first
                    | (go_at_call 12
                       with_reducible refine (take_any a4 R1.length c4 R1 v wr hO.out hle.out).mono ?_
                       rw [htk.out]
                       rintro e w5 ⟨a5, c5, rfl, hp5, hb5⟩
                       have hK5 : Kp w2 w5 := hK.next hb5
                       have hq5 : Hid (EnIn w5 (In_ w5) a5 R2.length c5 R2) := hp5)
                    | fail)
                  have f0 := hK.1.size
                  have f1 := hb5.size
                  have u0 : w5.cell? ⟨bb, off + i * 2, none⟩ = some (.int .i64 x[i].1) := (hK5.2 _ _ hbl).trans e0
                  have u1 : w5.cell? ⟨bb, off + i * 2 + 1, none⟩ = some (.int .i64 x[i].2) := (hK5.2 _ _ hbl).trans e1
                  have u2 : bb < w5.heap.size := by omega
                  generalize hW : World.alloc w5 _ = W5
                  have v0' : W5.cell? ⟨w5.heap.size, 0, none⟩ = some (.int .i64 x[i].1) := by subst hW; go_simp
                  have v1' : W5.cell? ⟨w5.heap.size, 1, none⟩ = some (.int .i64 x[i].2) := by subst hW; go_simp
                  have v2' : w5.heap.size < W5.heap.size := by subst hW; simp
                  have u0' : W5.cell? ⟨bb, off + i * 2, none⟩ = some (.int .i64 x[i].1) := by subst hW; exact (((Kp.refl w5).alloc _).2 _ _ u2).trans u0
                  have u1' : W5.cell? ⟨bb, off + i * 2 + 1, none⟩ = some (.int .i64 x[i].2) := by subst hW; exact (((Kp.refl w5).alloc _).2 _ _ u2).trans u1
                  have u2' : bb < W5.heap.size := by omega
                  have HK5 : Hid (Kp w2 W5) := by subst hW; exact hK5.alloc _
                  have HQ5 : Hid (EnIn W5 (In_ W5) a5 R2.length c5 R2) := by subst hW; exact ((Kp.refl w5).alloc _).en hq5.out
                  clear hW hK5 hq5 hp5 hb5 u0 u1 e0 e1 hK hO
                  generalize w5.heap.size = B5 at *
                  go_quiet (fail)
                  have hK6 : Kp w2 (W5.drewN nq) := drewN_kp HK5.out nq
                  have hQ6 : Hid (EnIn (W5.drewN nq) (In_ (W5.drewN nq)) a5 R2.length c5 R2) := (drewN_kp (Kp.refl W5) nq).en HQ5.out
                  clear HK5 HQ5 hw hsub htk
                  generalize W5.drewN nq = wq at *
                  go_wp2_with fail
                  go_roundw
                  case rel => exact ⟨i + 1, by omega, by simp, hK6, a5, c5, by rw [← HR2.out], by rw [← HR2.out]; exact hQ6⟩
                  case measure => simp [intOf]; omega
                · have hb1 : (x[i].1 != (v : Int)) = true := by rw [bne_iff_ne]; exact hne
                  have hst := hid (restL_step x v i hlt hne)
                  clear hne
                  go_wp2_with fail
                  go_roundw
                  case rel => exact ⟨i + 1, by omega, by simp, hK, a4, c4, by rw [hst.out], by rw [hst.out]; exact hO⟩
                  case measure => simp [intOf]; omega
              · obtain rfl : i = x.length := by omega
                obtain ⟨R2, hR2⟩ : ∃ R2, R2 = restL x v x.length := ⟨_, rfl⟩
                have htk := restL_end x v
                have hnx := restL_next x v
                rw [← hR2] at htk hnx hO hle
                simp only [← hR2]
                have htk := hid htk
                have hnx := hid hnx
                clear hR2
                go_wp2_with (first
                  | (go_at_call 12
                     with_reducible refine (take_any a4 R2.length c4 R2 v wr hO.out hle.out).mono ?_
                     rw [htk.out]
                     rintro e w5 ⟨a5, c5, rfl, hp5, hb5⟩
                     have hK5 : Kp w2 w5 := hK.next hb5
                     have hq5 : Hid (EnIn w5 (In_ w5) a4 R2.length c4 R2) := (Kp.of hb5).en hO.out)
                  | fail)
                have hK6 := hK5.alloc (.cells #[.int .i64 0, .int .i64 0] 26)
                have hQ6 := hid (((Kp.refl w5).alloc (.cells #[.int .i64 0, .int .i64 0] 26)).en hq5.out)
                clear hp5 hb5 hq5 hK5 hO hle htk
                generalize World.alloc w5 _ = W5 at *
                go_roundw
                case rel => exact ⟨v + 1, by omega, by simp, hK6, a4, c4, by rw [← hnx.out]; simp, by have h := hQ6; rw [← hnx.out] at h; simpa using h⟩
                case measure => simp [intOf]; omega
          · obtain rfl : v = 3 := by omega
            have hR : Hid (restL x ((3 : Nat) : Int) 0 = []) := restL_done x (fun y hy => (hvar.out y hy).2)
            rw [hR.out]
            go_wp2_with fail
            go_ret
            exact ⟨rfl, HB.out.trans (hK.1.mono HB.out.size)⟩
end Go.Proofs.Ytjjdmhbljagokaa
