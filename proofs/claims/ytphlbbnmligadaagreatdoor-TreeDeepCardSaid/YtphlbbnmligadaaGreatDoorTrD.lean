/- TreeDeep, walked. -/
import Derived.Test.YtphlbbnmligadaaGreatDoorTrK
import Derived.Test.YtphlbbnmligadaaGreatDoorBunO
import Derived.Test.YtphlbbnmligadaaGreatDoorBunS
import Derived.Deep.RegionHeld3
import Derived.BigRegion
namespace Go.Proofs.YtphlbbnmligadaaGreatDoor
open Go.RowKit

set_option maxRecDepth 100000 in
set_option maxHeartbeats 16000000 in
theorem treeDeep_walk (n m : Nat) (wide : Bool) (w : World) (hv : Lx.Vars w) (hn : n < 256) (hm : m < 256) :
    Calls Tryz.prog 8 #[.int .u8 n, .int .u8 m, .bool wide] w fun e w' => e = .returned (.bool true) ∧ Below w.heap.size w w' := by
  have HV := hid hv
  have k1 : IntKind.i64.wrap (n : Int) = (n : Int) := IntWalk.i64_in _ (by omega)
  have k2 : IntKind.i64.wrap (m : Int) = (m : Int) := IntWalk.i64_in _ (by omega)
  obtain ⟨n30, hn30⟩ : ∃ k : Nat, k = n % 30 := ⟨_, rfl⟩
  obtain ⟨m30, hm30⟩ : ∃ k : Nat, k = m % 30 := ⟨_, rfl⟩
  obtain ⟨n20, hn20⟩ : ∃ k : Nat, k = n % 20 := ⟨_, rfl⟩
  have k3 : (n : Int) % 30 = (n30 : Int) := by omega
  have k4 : (m : Int) % 30 = (m30 : Int) := by omega
  have k5 : (n : Int) % 20 = (n20 : Int) := by omega
  have k6 : n30 < 30 := by omega
  have k7 : m30 < 30 := by omega
  have k8 : n20 < 20 := by omega
  clear hv hn30 hm30 hn20
  go_enter Tryz.func8, Tryz.ntmps8
  go_wp2_with fail
  refine (num_any 1 _).mono ?_
  rintro e w1 ⟨rfl, hb1⟩
  generalize hW : w1.alloc (.cells #[.int .i64 1, .int .i64 1, .int .u8 0, .slice none 0 0] 44) = W0
  have hX0 : Hid (∃ v0 v1 v2 v3 y, XD w W0 w1.heap.size v0 v1 v2 v3 y) := by
    subst hW
    exact ⟨_, _, _, _, ex1, hb1.alloc hb1.size _, hb1.size, heap_alloc_new w1 _, ExIn.leaf _ _ 1 1 0 (by decide) (by decide) (by decide)⟩
  have hWx := hid hW
  clear hW hb1
  go_upto_region 2 with fail
  rw [hWx.out]
  clear hWx
  generalize w1.heap.size = X at *
  go_wp2_with fail
  go_loopw [8] (fun i wr => ∃ q : Nat, q ≤ 30 ∧ i = .int .i64 q ∧ Hid (∃ v0 v1 v2 v3 y, XD w wr X v0 v1 v2 v3 y)) (fun i _ => 30 - (intOf i).toNat)
  case atStart => exact ⟨0, Nat.zero_le _, rfl, hX0⟩
  case round =>
    obtain ⟨q, hq, rfl, hR⟩ := hrel
    by_cases hlt : (q : Int) < (n30 : Int)
    · obtain ⟨v0, v1, v2, v3, y, hD⟩ := hR.out
      have x4 := hD.hX
      obtain ⟨yk, yn, yo, yl⟩ := y
      obtain ⟨ya, yc, he, -⟩ := hD.hy.open_
      simp only [List.cons.injEq, and_true] at he
      obtain ⟨rfl, rfl, rfl, rfl⟩ := he
      have x0 := cell_of_heap (j := 0) x4
      have x1 := cell_of_heap (j := 1) x4
      have x2 := cell_of_heap (j := 2) x4
      have x3 := cell_of_heap (j := 3) x4
      simp at x0 x1 x2 x3
      have lX := hD.xlt
      have HD := hid hD
      clear x4 hD hR
      go_wp2_with fail
      go_region_with (first
        | (go_at_call 21; (with_reducible refine (num_any 0 _).mono ?_); rintro e w2 ⟨rfl, hb2⟩;
           have HD2 := hid (HD.out.call (w2 := w2) ((Below.refl _ _).drew.trans hb2));
           have y4 := HD2.out.hX;
           have y0 := cell_of_heap (j := 0) y4;
           have y1 := cell_of_heap (j := 1) y4;
           have y2 := cell_of_heap (j := 2) y4;
           have y3 := cell_of_heap (j := 3) y4;
           simp at y0 y1 y2 y3;
           have zY : ∀ j, w2.frozen? ⟨X, j, none⟩ = false := fun j => unfrozen y4;
           have lY := HD2.out.xlt;
           clear y4 hb2)
        | fail)
      all_goals
        go_wp2_with fail
        go_roundw
        case rel => exact ⟨q + 1, by omega, by simp, hid ⟨_, _, _, _, _, HD2.out.next⟩⟩
        case measure => simp [intOf]; omega
    · obtain ⟨v0, v1, v2, v3, y, hD⟩ := hR.out
      have x4 := hD.hX
      obtain ⟨yk, yn, yo, yl⟩ := y
      obtain ⟨ya, yc, he, -⟩ := hD.hy.open_
      simp only [List.cons.injEq, and_true] at he
      obtain ⟨rfl, rfl, rfl, rfl⟩ := he
      have x0 := cell_of_heap (j := 0) x4
      have x1 := cell_of_heap (j := 1) x4
      have x2 := cell_of_heap (j := 2) x4
      have x3 := cell_of_heap (j := 3) x4
      simp at x0 x1 x2 x3
      have lX := hD.xlt
      have hL0 := hid (LD.start hD)
      generalize hL : yl.length = ylen at *
      obtain ⟨W6, hW6⟩ : ∃ W6, W6 = wr.alloc (.cells #[.int .i64 9, .int .i64 0, .int .i64 0, .int .i64 yk, .int .i64 yn, .int .u8 yo, .slice ya ylen yc, .int .i64 0, .int .i64 0, .int .u8 0, .slice none 0 0, .slice none 0 0, .slice none 0 0] 56) := ⟨_, rfl⟩
      rw [← hW6] at hL0
      have hWx := hid hW6
      clear x4 hD hR hW6
      go_upto_region 7 with fail
      rw [← hWx.out]
      clear hWx x0 x1 x2 x3
      go_wp2_with fail
      have hR0 : Hid (∃ (B : Nat) (cs : List Value) (st : St), LD w W6 X B wr.heap.size (.int .i64 yk) (.int .i64 yn) (.int .u8 yo) (.slice ya ylen yc) (.mk yk yn yo yl) cs st) := ⟨_, _, _, hL0.out⟩
      generalize wr.heap.size = b6 at *
      clear hL0
      rename World => wq
      go_loopw [9, 10] (fun v i wr => ∃ (q b : Nat), q ≤ 30 ∧ i = .int .i64 q ∧ v = .slice (some ⟨b, 0, none⟩) 1 1 ∧ Hid (∃ (B : Nat) (cs : List Value) (st : St), LD w wr X B b (.int .i64 yk) (.int .i64 yn) (.int .u8 yo) (.slice ya ylen yc) (.mk yk yn yo yl) cs st)) (fun _ i _ => 30 - (intOf i).toNat)
      case atStart => exact ⟨0, b6, Nat.zero_le _, rfl, rfl, hR0⟩
      case round =>
        obtain ⟨q2, b, hq2, rfl, rfl, hR2⟩ := hrel
        by_cases hlt2 : (q2 : Int) < (m30 : Int)
        · obtain ⟨B, cs, st, hLD⟩ := hR2.out
          have HL := hid hLD
          clear hLD hR2
          go_wp2_with fail
          refine (num_any 1 _).mono ?_
          rintro e w8 ⟨rfl, hb8⟩
          have HL8 := hid ((HL.out.call hb8).next)
          go_wp2_with fail
          go_roundw
          case rel => exact ⟨q2 + 1, w8.heap.size, by omega, by simp, rfl, hid ⟨_, _, _, HL8.out⟩⟩
          case measure => simp [intOf]; omega
        · obtain ⟨B, cs, st, hLD⟩ := hR2.out
          have HP0 := hid (PD.start hLD)
          have hbl := hLD.blt
          obtain ⟨W9, hW9⟩ : ∃ W9, W9 = ((wr.alloc (.cells #[.string ⟨#[120]⟩] 9)).alloc (.cells #[.slice (some ⟨b, 0, none⟩) 1 1] 53)).alloc (.cells #[.slice (some ⟨wr.heap.size, 0, none⟩) 1 1, .int .i64 2, .slice (some ⟨wr.heap.size + 1, 0, none⟩) 1 1] 27) := ⟨_, rfl⟩
          rw [← hW9] at HP0
          have hWx := hid hW9
          clear hLD hR2 hW9
          go_upto_region 12 with fail
          rw [← hWx.out]
          clear hWx
          generalize wr.heap.size = V at *
          cases wide with
          | false =>
            have HP := HP0
            clear HP0
            generalize W9 = wz at *
            obtain ⟨p, -, -, -, hpg⟩ := HP.out.pg
            have hbz := HP.out.xe.bl
            have lP : V + 1 + 1 < wz.heap.size := HP.out.plt
            have lX3 : X < wz.heap.size := by have h1 := HP.out.lt; have h2 := HP.out.le; have h3 := HP.out.xe.le; omega
            have p4 := HP.out.hP
            have p0 : wz.cell? ⟨V + 1 + 1, 0, none⟩ = some (.slice (some ⟨V, 0, none⟩) 1 1) := cell_of_heap p4
            have p1 : wz.cell? ⟨V + 1 + 1, 1, none⟩ = some (.int .i64 2) := cell_of_heap p4
            have p2 : wz.cell? ⟨V + 1 + 1, 2, none⟩ = some (.slice (some ⟨V + 1, 0, none⟩) 1 1) := cell_of_heap p4
            have x4 := HP.out.xe.hX
            have x0 : wz.cell? ⟨X, 0, none⟩ = some (.int .i64 yk) := cell_of_heap x4
            have x1 : wz.cell? ⟨X, 1, none⟩ = some (.int .i64 yn) := cell_of_heap x4
            have x2 : wz.cell? ⟨X, 2, none⟩ = some (.int .u8 yo) := cell_of_heap x4
            have x3 : wz.cell? ⟨X, 3, none⟩ = some (.slice ya ylen yc) := cell_of_heap x4
            have hxx := HP.out.ex
            have g1 := hid (awake_any wz (HV.out.next hbz))
            have g2 : Hid (∀ W, Kp wz W → Calls Tryz.prog 20 #[.agg #[.slice (some ⟨V, 0, none⟩) 1 1, .int .i64 2, .slice (some ⟨V + 1, 0, none⟩) 1 1], .agg #[.slice (some ⟨V, 0, none⟩) 1 1, .int .i64 2, .slice (some ⟨V + 1, 0, none⟩) 1 1], .agg #[.int .i64 yk, .int .i64 yn, .int .u8 yo, .slice ya ylen yc]] W fun e w' => e = .returned (.bool true) ∧ Below W.heap.size W w') := fun W hW => same_any p p _ _ _ _ W (hW.pg hpg) (hW.pg hpg) (hW.ex hxx)
            have HBz := hid hbz
            clear hpg hbz p4 x4 hxx HP
            go_wp2_with (first
              | (go_at_call 9
                 with_reducible refine g1.out.mono ?_
                 rintro e wa ⟨rfl, hba⟩
                 have hka : Kp wz wa := Kp.of hba
                 have sa := hba.size
                 have lPa : V + 1 + 1 < wa.heap.size := by omega
                 have lXa : X < wa.heap.size := by omega
                 clear hba)
              | (go_at_call 20
                 with_reducible refine (g2.out _ hka).mono ?_
                 rintro e wb ⟨rfl, hbb⟩
                 have hkb := hid (Kp.next hka hbb)
                 clear hbb)
              | fail)
            go_ret
            exact ⟨rfl, Kp.fin HBz.out hkb.out⟩
          | true =>
            obtain ⟨lim, hlim⟩ : ∃ k : Nat, k = 190 + n20 := ⟨_, rfl⟩
            have k9 : IntKind.i64.wrap (190 + (n20 : Int)) = (lim : Int) := (IntWalk.i64_in _ (by omega)).trans (by omega)
            have k10 : lim ≤ 209 := by omega
            clear hlim
            have hR9 : Hid (∃ A c, PD w W9 X B b V (.int .i64 yk) (.int .i64 yn) (.int .u8 yo) (.slice ya ylen yc) (.mk yk yn yo yl) A c (0 + 1)) := ⟨_, _, HP0.out⟩
            clear HP0
            go_wp2_with fail
            rename_i wu1 wu2
            go_loopw [12] (fun i wr => ∃ q : Nat, q ≤ 209 ∧ i = .int .i64 q ∧ Hid (∃ A c, PD w wr X B b V (.int .i64 yk) (.int .i64 yn) (.int .u8 yo) (.slice ya ylen yc) (.mk yk yn yo yl) A c (q + 1))) (fun i _ => 210 - (intOf i).toNat)
            case atStart => exact ⟨0, Nat.zero_le _, rfl, hR9⟩
            case round =>
              obtain ⟨q3, hq3, rfl, hR3⟩ := hrel
              by_cases hlt3 : (q3 : Int) < (lim : Int)
              · obtain ⟨A, c, hPD⟩ := hR3.out
                have HP := hid hPD
                clear hPD hR3
                go_wp2_with fail
                go_region
                all_goals
                  generalize hz : World.drew (World.alloc wr _) = wz
                  have HPz := hid (HP.out.call (w2 := wz) (by subst hz; exact ((Below.refl _ _).alloc (Nat.le_refl _) _).drew))
                  clear hz
                  obtain ⟨L, hL, hO⟩ := HPz.out.row
                  have HO := hid hO
                  have p4 := HPz.out.hP
                  have p2 : wz.cell? ⟨V + 1 + 1, 2, none⟩ = some (.slice (some ⟨V + 1, 0, none⟩) 1 1) := cell_of_heap p4
                  have t4 := HPz.out.hT
                  have t0 : wz.cell? ⟨V + 1, 0, none⟩ = some (.slice A (q3 + 1) c) := cell_of_heap t4
                  have lP : V + 1 + 1 < wz.heap.size := HPz.out.plt
                  have lT : V + 1 < wz.heap.size := by omega
                  clear p4 t4 hO
                · obtain ⟨hne, hlt5⟩ : (∀ k, (Value.slice A (q3 + 1) c).ownBlock = some k → k < V ∨ V + 2 < k) ∧ b < V := ⟨HPz.out.ne, HPz.out.lt⟩
                  have hob : ∀ k, (Value.slice A (q3 + 1) c).ownBlock = some k → b ≤ k := fun k hk => (HO.out.own k hk).1
                  have HPd := hid (HPz.out.call (w2 := wz.drew) (Below.refl _ _).drew)
                  have HOd : Hid (StO wz.drew b (Ps X b) (.slice A (q3 + 1) c) L) := hid (HO.out.kept (r := none) ⟨rfl, rfl, rfl, Nat.le_refl _, fun _ _ _ => rfl⟩ (by cases (Value.slice A (q3 + 1) c).ownBlock <;> simp) fun k hk => ⟨by have := hk.2; omega, by simp⟩)
                  go_wp2_with fail
                  go_region_law (first
                    | ((go_loud (refine step_stO (T := 56) wz.drew (n := q3 + 1) (base := b) (S := Ps X b) (Operand.tmp 69) (Operand.tmp 71) (Value.slice A (q3 + 1) c) L fenS fenC ?_ ?_ ?_ ?_ ?_ ?_ ?_ ?_ ?_ ?_ ?_ ?_));
                       (go_loud (focus rfl)); (go_loud (focus rfl)); (go_loud (focus rfl)); (go_loud (focus rfl)); (go_loud (focus rfl)); (go_loud (focus exact hL)); (go_loud (focus exact HOd.out)); (go_loud (focus exact fen_in _ _)); (go_loud (focus omega)); (go_loud (focus (simp; omega)));
                       (go_loud (focus exact fun k hk => ⟨by have := hk.2; simp; omega, fun e => by have h1 := hob k e.symm; have := hk.2; omega⟩));
                       (go_loud (intro A2 c2 w2 hO2 hg2 hat2));
                       (go_loud (have HA := hid (HPd.out.app hg2 (by simp [hL]) hO2 hat2)));
                       (go_loud (have tt : w2.heap[V + 1]? = some (.cells #[.slice A (q3 + 1) c] 53 (0, 0)) := (hg2.block (V + 1) (by simp; omega) (fun e => by have := hne _ e.symm; omega)).trans ((Below.heap_alloc _ _ _ (by simp; omega)).trans HPz.out.hT)));
                       have lT2 : V + 1 < w2.heap.size := (Array.getElem?_eq_some_iff.1 tt).1;
                       have t2 : w2.cell? ⟨V + 1, 0, none⟩ = some (.slice A (q3 + 1) c) := cell_of_heap tt;
                       have fT : ∀ j, w2.frozen? ⟨V + 1, j, none⟩ = false := fun j => unfrozen tt;
                       (go_loud (have pp : w2.heap[V + 2]? = some (.cells #[.slice (some ⟨V, 0, none⟩) 1 1, .int .i64 2, .slice (some ⟨V + 1, 0, none⟩) 1 1] 27 (0, 0)) := (hg2.block (V + 2) (by simp; omega) (fun e => by have := hne _ e.symm; omega)).trans ((Below.heap_alloc _ _ _ (by simp; omega)).trans HPz.out.hP)));
                       have p2w : w2.cell? ⟨V + 1 + 1, 2, none⟩ = some (.slice (some ⟨V + 1, 0, none⟩) 1 1) := cell_of_heap pp;
                       have lPw : V + 1 + 1 < w2.heap.size := (Array.getElem?_eq_some_iff.1 pp).1;
                       clear tt pp hO2 hg2 hat2)
                    | fail)
                  all_goals
                    go_wp2_with fail
                    go_roundw
                    case rel => exact ⟨q3 + 1, by omega, by simp, hid ⟨_, _, HA.out⟩⟩
                    case measure => simp [intOf]; omega
                · obtain ⟨hne, hlt5⟩ : (∀ k, (Value.slice A (q3 + 1) c).ownBlock = some k → k < V ∨ V + 2 < k) ∧ b < V := ⟨HPz.out.ne, HPz.out.lt⟩
                  have hob : ∀ k, (Value.slice A (q3 + 1) c).ownBlock = some k → b ≤ k := fun k hk => (HO.out.own k hk).1
                  go_upto_region 18 with (first
                    | (at_builtin
                       (refine list_stN (T := 56) (n := q3 + 1) (base := b) (S := Ps X b) (Operand.tmp 57) (Operand.tmp 60) (Value.slice A (q3 + 1) c) L zerS zerC ?_ ?_ ?_ ?_ ?_ ?_ ?_ ?_ ?_ ?_ ?_)
                       (focus rfl); (focus rfl); (focus rfl); (focus rfl); (focus exact hL); (focus exact HO.out); (focus exact zer_in _ _); (focus omega); (focus omega)
                       (focus exact fun k hk => ⟨by have := hk.2; omega, fun e => by have h1 := hob k e.symm; have := hk.2; omega⟩)
                       intro A2 c2 w2 hO2 hg2 hat2
                       have tt : w2.heap[V + 1]? = some (.cells #[.slice A (q3 + 1) c] 53 (0, 0)) := (hg2.block (V + 1) (by simp; omega) (fun e => by have := hne _ e.symm; omega)).trans ((Below.heap_alloc _ _ _ (by omega)).trans HPz.out.hT)
                       have lT2 : V + 1 < w2.heap.size := (Array.getElem?_eq_some_iff.1 tt).1
                       have t2 : w2.cell? ⟨V + 1, 0, none⟩ = some (.slice A (q3 + 1) c) := cell_of_heap tt
                       have fT : ∀ j, w2.frozen? ⟨V + 1, j, none⟩ = false := fun j => unfrozen tt
                       have HO2 := hid hO2
                       have Hg2 := hid hg2
                       have Hat2 := hid hat2
                       clear tt hO2 hg2 hat2)
                    | fail)
                  have hA := HPz.out.app Hg2.out (by simp [hL]) HO2.out Hat2.out
                  obtain ⟨w3, hw3⟩ : ∃ w3, w3 = w2.setCell ⟨V + 1, 0, none⟩ (.slice A2 (q3 + 1 + 1) c2) := ⟨_, rfl⟩
                  rw [← hw3] at hA ⊢
                  obtain ⟨g, rfl, lg, lc, lm, hcg, fg, hPL⟩ := hA.last
                  have HPL := hid hPL
                  unfold maxLen at lm
                  obtain ⟨z0, d0⟩ := hcg 0 (by omega)
                  obtain ⟨z1, d1⟩ := hcg 1 (by omega)
                  obtain ⟨z2, d2⟩ := hcg 2 (by omega)
                  obtain ⟨z3, d3⟩ := hcg 3 (by omega)
                  obtain ⟨z4, d4⟩ := hcg 4 (by omega)
                  obtain ⟨z5, d5⟩ := hcg 5 (by omega)
                  obtain ⟨z6, d6⟩ := hcg 6 (by omega)
                  obtain ⟨z7, d7⟩ := hcg 7 (by omega)
                  obtain ⟨z8, d8⟩ := hcg 8 (by omega)
                  obtain ⟨z9, d9⟩ := hcg 9 (by omega)
                  obtain ⟨z10, d10⟩ := hcg 10 (by omega)
                  obtain ⟨z11, d11⟩ := hcg 11 (by omega)
                  obtain ⟨z12, d12⟩ := hcg 12 (by omega)
                  rw [Nat.add_zero] at d0
                  clear hcg hPL hA hw3 t2 fT lT2
                  go_wp2_with fail
                  go_roundw
                  case rel => exact ⟨q3 + 1, by omega, by simp, hid ⟨_, _, HPL.out⟩⟩
                  case measure => simp [intOf]; omega
              · obtain ⟨A, c, hPD⟩ := hR3.out
                have HP := hid hPD
                clear hPD hR3
                generalize wr = wz at *
                obtain ⟨p, -, -, -, hpg⟩ := HP.out.pg
                have hbz := HP.out.xe.bl
                have lP : V + 1 + 1 < wz.heap.size := HP.out.plt
                have lX3 : X < wz.heap.size := by have h1 := HP.out.lt; have h2 := HP.out.le; have h3 := HP.out.xe.le; omega
                have p4 := HP.out.hP
                have p0 : wz.cell? ⟨V + 1 + 1, 0, none⟩ = some (.slice (some ⟨V, 0, none⟩) 1 1) := cell_of_heap p4
                have p1 : wz.cell? ⟨V + 1 + 1, 1, none⟩ = some (.int .i64 2) := cell_of_heap p4
                have p2 : wz.cell? ⟨V + 1 + 1, 2, none⟩ = some (.slice (some ⟨V + 1, 0, none⟩) 1 1) := cell_of_heap p4
                have x4 := HP.out.xe.hX
                have x0 : wz.cell? ⟨X, 0, none⟩ = some (.int .i64 yk) := cell_of_heap x4
                have x1 : wz.cell? ⟨X, 1, none⟩ = some (.int .i64 yn) := cell_of_heap x4
                have x2 : wz.cell? ⟨X, 2, none⟩ = some (.int .u8 yo) := cell_of_heap x4
                have x3 : wz.cell? ⟨X, 3, none⟩ = some (.slice ya ylen yc) := cell_of_heap x4
                have hxx := HP.out.ex
                have g1 := hid (awake_any wz (HV.out.next hbz))
                have g2 : Hid (∀ W, Kp wz W → Calls Tryz.prog 20 #[.agg #[.slice (some ⟨V, 0, none⟩) 1 1, .int .i64 2, .slice (some ⟨V + 1, 0, none⟩) 1 1], .agg #[.slice (some ⟨V, 0, none⟩) 1 1, .int .i64 2, .slice (some ⟨V + 1, 0, none⟩) 1 1], .agg #[.int .i64 yk, .int .i64 yn, .int .u8 yo, .slice ya ylen yc]] W fun e w' => e = .returned (.bool true) ∧ Below W.heap.size W w') := fun W hW => same_any p p _ _ _ _ W (hW.pg hpg) (hW.pg hpg) (hW.ex hxx)
                have HBz := hid hbz
                clear hpg hbz p4 x4 hxx HP
                go_wp2_with (first
                  | (go_at_call 9
                     with_reducible refine g1.out.mono ?_
                     rintro e wa ⟨rfl, hba⟩
                     have hka : Kp wz wa := Kp.of hba
                     have sa := hba.size
                     have lPa : V + 1 + 1 < wa.heap.size := by omega
                     have lXa : X < wa.heap.size := by omega
                     clear hba)
                  | (go_at_call 20
                     with_reducible refine (g2.out _ hka).mono ?_
                     rintro e wb ⟨rfl, hbb⟩
                     have hkb := hid (Kp.next hka hbb)
                     clear hbb)
                  | fail)
                go_ret
                exact ⟨rfl, Kp.fin HBz.out hkb.out⟩
end Go.Proofs.YtphlbbnmligadaaGreatDoor
