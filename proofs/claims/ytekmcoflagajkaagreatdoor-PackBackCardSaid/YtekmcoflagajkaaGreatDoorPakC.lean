/- The document's Pack. -/
import Derived.Test.YtekmcoflagajkaaGreatDoorPakB
import Derived.Test.YtekmcoflagajkaaGreatDoorStpD
import Derived.Deep.RegionHeld3
namespace Go.Proofs.YtekmcoflagajkaaGreatDoor
open Go.RowKit

theorem fits_pc {vars dom : Int} {t : List (List Ins)} {m b : Int} {th : List Thr} {mem : List Int} (h : fitsL vars dom t m b th mem = true) : ∀ i (hi : i < th.length), 0 ≤ th[i].pc ∧ th[i].pc ≤ 600 := by
  intro i hi
  unfold fitsL at h
  simp only [Bool.and_eq_true, List.all_eq_true, List.mem_range, decide_eq_true_eq] at h
  obtain ⟨⟨⟨⟨h1, h2⟩, _⟩, _⟩, h3⟩ := h
  have := h3 i hi
  unfold thrL at this
  simp only [Bool.and_eq_true, decide_eq_true_eq, List.getElem?_eq_getElem hi, Option.getD_some] at this
  refine ⟨this.1.1.1, ?_⟩
  unfold mayL rightL at h1
  simp only [Bool.and_eq_true, List.all_eq_true, decide_eq_true_eq] at h1
  have hi' : i < t.length := by omega
  have h4 := h1.1.1.1.1.2 t[i] (List.getElem_mem hi')
  unfold rowL at h4
  simp only [Bool.and_eq_true, decide_eq_true_eq] at h4
  have h5 := this.1.1.2
  rw [List.getElem?_eq_getElem hi', Option.getD_some] at h5
  have := h4.1
  omega

/-- What is kept beside a thread's box. -/
abbrev KT (W0 : World) (tb : Nat) (x : Thr) (ar : Option Addr) (kr : Nat) (w : World) : Prop := Kp W0 w ∧ tb < w.heap.size ∧ w.cell? ⟨tb, 5, none⟩ = some (.slice ar x.buf.length kr) ∧ Hid (TBox w tb x ar kr)
theorem KT.of {W0 w : World} {tb : Nat} {x : Thr} {ar : Option Addr} {kr : Nat} (h : Kp W0 w) (ht : TBox w tb x ar kr) : KT W0 tb x ar kr w := ⟨h, ht.lt, ht.c5, ht⟩
theorem KT.drew {W0 w : World} {tb : Nat} {x : Thr} {ar : Option Addr} {kr : Nat} (h : KT W0 tb x ar kr w) : KT W0 tb x ar kr w.drew := .of h.1.drew (h.2.2.2.out.keep (Nat.le_refl _) fun _ => rfl)
theorem KT.alloc {W0 w : World} {tb : Nat} {x : Thr} {ar : Option Addr} {kr : Nat} (h : KT W0 tb x ar kr w) (o : Obj) : KT W0 tb x ar kr (w.alloc o) := .of (h.1.alloc o) (h.2.2.2.out.alloc o)
theorem KT.grown {W0 w w' : World} {tb : Nat} {x : Thr} {ar : Option Addr} {kr : Nat} {r : Option Nat} (h : KT W0 tb x ar kr w) (hg : w.grownBy w' r) (hr : ∀ k, r = some k → W0.heap.size ≤ k) (hn : r ≠ some tb) : KT W0 tb x ar kr w' :=
  .of (h.1.grown hg hr) (h.2.2.2.out.grown hg hn)

set_option maxRecDepth 100000 in
set_option maxHeartbeats 16000000 in
theorem refPack_any (vars dom m b : Int) (ac : Option Addr) (nc capc : Nat) (t : List (List Ins)) (ah : Option Addr) (nh caph : Nat) (th : List Thr) (am : Option Addr) (nm capm : Nat) (mem : List Int) (bad : Bool) (w : World)
    (hc : ThsIn w (In_ w) ac nc capc t) (hh : ThrIn w (In_ w) ah nh caph th) (hm : IntIn w (In_ w) am nm capm mem) (hbuf : ∀ x ∈ th, x.buf.length ≤ 1000) (hth : th.length ≤ 1000) (hml : mem.length ≤ 1000) :
    Calls Tryz.prog 10 #[.agg #[.int .i64 vars, .int .i64 dom, .slice ac nc capc], .agg #[.int .i64 m, .int .i64 b], .agg #[.slice ah nh caph, .slice am nm capm, .bool bad]] w
      fun e w' => e = .returned (packS (fitsL vars dom t m b th mem) (packB th mem bad)) ∧ Below w.heap.size w w' := by
  have hn2 := hh.1
  have hn3 := hm.1
  subst hn2 hn3
  have l3 := hh.le
  have l4 := hh.mx
  have l5 := hm.2.le
  have l6 := hm.2.mx
  unfold maxLen at l4 l6
  obtain ⟨W0, hW⟩ : ∃ W0, W0 = ((w.alloc (.cells #[.int .i64 vars, .int .i64 dom, .slice ac nc capc] 25)).alloc (.cells #[.int .i64 m, .int .i64 b] 30)).alloc (.cells #[.slice ah th.length caph, .slice am mem.length capm, .bool bad] 34) := ⟨_, rfl⟩
  have hB : Below w.heap.size w W0 := by subst hW; exact (((Below.refl _ _).alloc (Nat.le_refl _) _).alloc (by simp) _).alloc (by simp; omega) _
  have z2 : w.heap.size + 1 + 1 < W0.heap.size := by subst hW; simp
  have s0 : W0.cell? ⟨w.heap.size + 1 + 1, 0, none⟩ = some (.slice ah th.length caph) := by subst hW; go_simp
  have s1 : W0.cell? ⟨w.heap.size + 1 + 1, 1, none⟩ = some (.slice am mem.length capm) := by subst hW; go_simp
  have s2 : W0.cell? ⟨w.heap.size + 1 + 1, 2, none⟩ = some (.bool bad) := by subst hW; go_simp
  have hfit := hid (refFits_any vars dom m b ac nc capc t ah th.length caph th am mem.length capm mem bad W0 ((Kp.of hB).ths hc) ((Kp.of hB).thr hh) ((Kp.of hB).ints hm) hbuf)
  have hpcs : Hid (fitsL vars dom t m b th mem = true → ∀ i (hi : i < th.length), 0 ≤ th[i].pc ∧ th[i].pc ≤ 600) := fun h => fits_pc h
  generalize hL : packB th mem bad = LL
  have HL := hid hL
  clear hL
  generalize fitsL vars dom t m b th mem = fit at *
  have hh0 := hid ((Kp.of hB).thr hh)
  have hm0 := hid ((Kp.of hB).ints hm)
  have HB := hid hB
  have hWx := hid hW
  clear hW hB hc hh hm
  go_enter Tryz.func10, Tryz.ntmps10
  go_wp2_with fail
  rw [← hWx.out]
  refine hfit.out.mono ?_
  rintro e w1 ⟨rfl, hb1⟩
  have hK1 : Kp W0 w1 := Kp.of hb1
  have HK1 := hid hK1
  clear hfit hWx
  cases fit
  case false =>
    go_wp2_with fail
    go_ret2
    exact ⟨rfl, Kp.fin HB.out HK1.out⟩
  have hpc := hid (hpcs.out rfl)
  clear hpcs
  obtain ⟨b0, hb0⟩ : ∃ b0 : Int, b0 = if bad then 1 else 0 := ⟨_, rfl⟩
  have g1 := hK1.1.size
  have g2 : w.heap.size + 1 + 1 < w1.heap.size := by omega
  cases bad
  all_goals
    go_wp2_with fail
    generalize hV : World.alloc w1 _ = V
    have hVW : V = w1.alloc (.cells #[.int .u8 b0] 5) := by
      subst hV
      rw [hb0]
      rfl
    have hown0 : Hid (OutIs V W0.heap.size (.slice (some ⟨w1.heap.size, 0, none⟩) 1 1) [b0]) := by
      refine ⟨⟨_, _, _, rfl⟩, ?_⟩
      rw [hVW]
      exact World.ownsRow_lit w1 #[.int .u8 b0] 1 g1 (by decide) rfl
    have hKV : Kp W0 V := by rw [hVW]; exact HK1.out.alloc _
    have HB0 := hid hb0
    clear hV hVW hb0 hK1 hb1 g1 g2
    go_loopw [8, 9] (fun o i wr => ∃ k : Nat, k ≤ mem.length ∧ i = .int .i64 k ∧ Kp W0 wr ∧ Hid (OutIs wr W0.heap.size o ([b0] ++ (mem.take k).map by8))) (fun _ i _ => mem.length - (intOf i).toNat)
    case atStart => exact ⟨0, Nat.zero_le _, rfl, hKV, hown0⟩
    case round =>
      clear hKV hown0
      obtain ⟨k, hk, rfl, hK, hO⟩ := hrel
      obtain ⟨⟨a1, n1, c1, rfl⟩, hown⟩ := hO.out
      have hown := hid hown
      clear hO
      by_cases hlt : k < mem.length
      · obtain ⟨bb, off, rfl, hbb, e0⟩ := hm0.out.at_ k hlt
        have hts0 : [b0] ++ (mem.take (k + 1)).map by8 = [b0] ++ ((mem.take k).map by8 ++ [by8 mem[k]]) := by rw [map_snoc mem k hlt]
        have hts := hts0
        clear hts0
        have hle : Hid (([b0] ++ (mem.take k).map by8).length ≤ 2000) := by show _ ≤ _; simp only [List.length_append, List.length_map, List.length_take, List.length_cons, List.length_nil]; omega
        rw [← List.append_assoc] at hts
        generalize [b0] ++ (mem.take k).map by8 = C at *
        generalize mem[k] = n at *
        have hts := hid hts
        have k0 : (0 : Int) ≤ k := by omega
        have k1 : (k : Int) < mem.length := by omega
        have hbl := hbb.lt
        have g0 := hK.1.size
        have g3 : bb < wr.heap.size := by omega
        go_wp2_with (first
          | (at_builtin
             refine list_by (base := W0.heap.size) (.tmp 31) (.tmp 38) (.slice a1 n1 c1) C.length (C.map (Value.int .u8)) 1 [.int .u8 (by8 n)] ?_ ?_ ?_ ?_ ?_ ?_ ?_ ?_ ?_
             (focus rfl); (focus rfl); (focus rfl); (focus exact hown.out.alloc _); (focus exact ⟨_, _, rfl, src_new rfl⟩); (focus exact one_by); (focus (have := hle.out; omega)); (focus (simp; omega))
             intro v2 w2 hown2 hg2 hat2
             have hk1 : Kp W0 w2 := Kp.grown (hK.alloc _) hg2 (fun k hk => (hown.out.lt k hk).1))
          | fail)
        have hO2 := hid (OutIs.app (L := C) (news := [by8 n]) hown2)
        clear hown2 hg2 hat2 hown
        obtain ⟨⟨a2, n2, c2, rfl⟩, _⟩ := hO2.out
        go_roundw
        case rel => exact ⟨k + 1, by omega, by simp, hk1, by rw [hts.out]; exact hO2⟩
        case measure => simp [intOf]; omega
      · obtain rfl : k = mem.length := by omega
        rw [List.take_length] at hown
        have hML : Hid (([b0] ++ mem.map by8).length ≤ 2000) := by show _ ≤ _; simp only [List.length_append, List.length_map, List.length_cons, List.length_nil]; omega
        have hO : Hid (OutIs wr W0.heap.size (.slice a1 n1 c1) ([b0] ++ mem.map by8)) := ⟨⟨_, _, _, rfl⟩, hown.out⟩
        generalize hM : [b0] ++ mem.map by8 = M at *
        have HM := hid hM
        clear hM
        clear hown
        have HK := hid hK
        go_wp2_with fail
        rename World => W2
        go_loopw [8, 10] (fun o i wr => ∃ k : Nat, k ≤ th.length ∧ i = .int .i64 k ∧ Kp W0 wr ∧ Hid (OutIs wr W0.heap.size o (M ++ (th.take k).flatMap thrB))) (fun _ i _ => th.length - (intOf i).toNat)
        case atStart => exact ⟨0, Nat.zero_le _, rfl, HK.out, by show OutIs _ _ _ _; rw [List.take_zero, List.flatMap_nil, List.append_nil]; exact hO.out⟩
        case round =>
          clear HK hK hO
          obtain ⟨k, hk, rfl, hK, hO⟩ := hrel
          obtain ⟨⟨a1, n1, c1, rfl⟩, hown⟩ := hO.out
          have hown := hid hown
          clear hO
          by_cases hlt : k < th.length
          · obtain ⟨bb, off, ar, kr, rfl, hbb, ⟨f0, f1, f2⟩, ⟨f3, f4, f5⟩, hb0'⟩ := hh0.out.at_ k hlt
            have hts := hid (thrB_snoc th k hlt)
            have hle : Hid ((M ++ (th.take k).flatMap thrB).length ≤ 2010000) := by
              have h1 := hML.out
              have h2 := flat_len (th.take k) fun x hx => hbuf x (List.mem_of_mem_take hx)
              show _ ≤ _
              rw [List.length_take] at h2
              rw [List.length_append]
              have h3 : min k th.length ≤ 1000 := by omega
              omega
            have hbl5 := hbuf th[k] (List.getElem_mem hlt)
            obtain ⟨hpk, hpk2⟩ := hpc.out k hlt
            generalize hC : M ++ (th.take k).flatMap thrB = C at *
            generalize th[k] = x at *
            obtain ⟨pc, r0, r1, r2, r3, buf⟩ := x
            simp only at f0 f1 f2 f3 f4 f5 hb0' hbl5 hpk hpk2
            have HQ : Hid (by8 (pc / 256) = pc / 256) := by show _ = _; rw [by8_eq]; omega
            have k0 : (0 : Int) ≤ k := by omega
            have k1 : (k : Int) < th.length := by omega
            have hbl := hbb.lt
            have g0 := hK.1.size
            have g3 : bb < wr.heap.size := by omega
            go_wp2_with (first
              | (at_builtin
                 refine list_by (base := W0.heap.size) (.tmp 52) (.tmp 61) (.slice a1 n1 c1) C.length (C.map (Value.int .u8)) 2 [.int .u8 (pc / 256), .int .u8 (by8 pc)] ?_ ?_ ?_ ?_ ?_ ?_ ?_ ?_ ?_
                 (focus rfl); (focus rfl); (focus rfl); (focus exact (hown.out.alloc _).alloc _); (focus exact ⟨_, _, rfl, src_at (by simp) rfl⟩); (focus exact two_by); (focus (have := hle.out; omega)); (focus (simp; omega))
                 intro v2 w2 hown2 hg2 hat2
                 have hk1 : Kp W0 w2 := Kp.grown ((hK.alloc _).alloc _) hg2 (fun k hk => (hown.out.lt k hk).1)
                 have hO2 := hid (OutIs.app (L := C) (news := [pc / 256, by8 pc]) hown2)
                 have ht0 : TBox (wr.alloc (.cells #[.int .i64 pc, .int .i64 r0, .int .i64 r1, .int .i64 r2, .int .i64 r3, .slice ar buf.length kr] 64)) wr.heap.size ⟨pc, r0, r1, r2, r3, buf⟩ ar kr := by
                   refine ⟨by simp, ?_, ?_, ?_, ?_, ?_, ?_⟩ <;> go_simp
                 have hr0 : (Value.slice a1 n1 c1).ownBlock ≠ some wr.heap.size := fun h => by have := (hown.out.lt _ h).2; omega
                 have ht2 := (ht0.alloc (.cells #[.int .u8 (pc / 256), .int .u8 (by8 pc)] 5)).grown hg2 hr0
                 have ht3 := hid ht2
                 have hr2 := hid (ne_box hr0 (by simp; omega) hat2)
                 clear ht0 hr0 hg2 hat2 hown2
                 obtain ⟨d9, d0, d1, d2, d3, d4, d5⟩ := ht2
                 simp only at d0 d1 d2 d3 d4 d5
                 obtain ⟨⟨a2, n2, c2, rfl⟩, _⟩ := hO2.out)
              | fail)
            generalize wr.heap.size = tb at *
            have hC1 : Hid ((C ++ [pc / 256, by8 pc]).length ≤ 2010100) := by have := hle.out; show _ ≤ _; simp only [List.length_append, List.length_cons, List.length_nil]; omega
            generalize hD : C ++ [pc / 256, by8 pc] = C1 at *
            have HD := hid hD
            clear hD d9 d0 d1 d2 d3 d4 d5
            have HK2 := hid hk1
            rename World => W3
            go_loopw [8, 12] (fun o i wr => ∃ j : Nat, j ≤ 4 ∧ i = .int .i64 j ∧ Kp W0 wr ∧ TBox wr tb ⟨pc, r0, r1, r2, r3, buf⟩ ar kr ∧ o.ownBlock ≠ some tb ∧ Hid (OutIs wr W0.heap.size o (C1 ++ ([r0, r1, r2, r3].take j).map by8))) (fun _ i _ => 4 - (intOf i).toNat)
            case atStart => exact ⟨0, by omega, rfl, HK2.out, ht3.out, hr2.out, by show OutIs _ _ _ _; rw [List.take_zero, List.map_nil, List.append_nil]; exact hO2.out⟩
            case round =>
              clear HK2 hk1 ht3 hr2 hO2
              obtain ⟨j, hj, rfl, hK3, hT, hr3, hO3⟩ := hrel
              obtain ⟨⟨a3, n3, c3, rfl⟩, hown3⟩ := hO3.out
              have hown3 := hid hown3
              clear hO3
              have hle3 : Hid ((C1 ++ ([r0, r1, r2, r3].take j).map by8).length ≤ 2010104) := by
                have := hC1.out
                show _ ≤ _
                simp only [List.length_append, List.length_map, List.length_take, List.length_cons, List.length_nil]
                omega
              by_cases hj4 : j < 4
              · have hts3 : Hid (C1 ++ ([r0, r1, r2, r3].take (j + 1)).map by8 = (C1 ++ ([r0, r1, r2, r3].take j).map by8) ++ [by8 ([r0, r1, r2, r3].getD j 0)]) := by
                  show _ = _
                  rw [map_snoc [r0, r1, r2, r3] j (by simpa using hj4), ← List.append_assoc]
                  simp [hj4]
                generalize C1 ++ ([r0, r1, r2, r3].take j).map by8 = C2 at *
                obtain ⟨r, hr, ix⟩ : ∃ r : Int, r = [r0, r1, r2, r3].getD j 0 ∧ wr.cell? ⟨tb, 1 + j, none⟩ = some (.int .i64 r) := by
                  obtain ⟨d9, d0, d1, d2, d3, d4, d5⟩ := hT
                  have hj5 : j = 0 ∨ j = 1 ∨ j = 2 ∨ j = 3 := by omega
                  rcases hj5 with rfl | rfl | rfl | rfl
                  · exact ⟨_, rfl, d1⟩
                  · exact ⟨_, rfl, d2⟩
                  · exact ⟨_, rfl, d3⟩
                  · exact ⟨_, rfl, d4⟩
                rw [← hr] at hts3
                clear hr
                have k3 : (0 : Int) ≤ j := by omega
                have k4 : (j : Int) < 4 := by omega
                go_wp2_with (first
                  | (at_builtin
                     refine list_by (base := W0.heap.size) (.tmp 67) (.tmp 73) (.slice a3 n3 c3) C2.length (C2.map (Value.int .u8)) 1 [.int .u8 (by8 r)] ?_ ?_ ?_ ?_ ?_ ?_ ?_ ?_ ?_
                     (focus rfl); (focus rfl); (focus rfl); (focus exact hown3.out.alloc _); (focus exact ⟨_, _, rfl, src_at rfl rfl⟩); (focus exact one_by); (focus (have := hle3.out; omega)); (focus (have := hK3.1.size; simp; omega))
                     intro v4 w4 hown4 hg4 hat4
                     have hk4 : Kp W0 w4 := Kp.grown (hK3.alloc _) hg4 (fun k hk => (hown3.out.lt k hk).1))
                  | fail)
                have hO4 := hid (OutIs.app (L := C2) (news := [by8 r]) hown4)
                have ht4 := (hT.alloc (.cells #[.int .u8 (by8 r)] 5)).grown hg4 hr3
                have hr4 := ne_box (w := wr.alloc (.cells #[.int .u8 (by8 r)] 5)) hr3 (by have := hT.lt; simp; omega) hat4
                clear hown4 hg4 hat4 hown3 ix
                go_roundw
                case rel => exact ⟨j + 1, by omega, by simp, hk4, ht4, hr4, by rw [hts3.out]; exact hO4⟩
                case measure => simp [intOf]; omega
              · obtain rfl : j = 4 := by omega
                have hE : Hid (C1 ++ ([r0, r1, r2, r3].take 4).map by8 = C1 ++ [by8 r0, by8 r1, by8 r2, by8 r3]) := rfl
                rw [hE.out] at hown3 hle3
                generalize hC2 : C1 ++ [by8 r0, by8 r1, by8 r2, by8 r3] = C2 at *
                have HC2 := hid hC2
                clear hE hC2
                have hT' := hT
                obtain ⟨d9, d0, d1, d2, d3, d4, d5⟩ := hT'
                simp only at d0 d1 d2 d3 d4 d5
                have k5 : (buf.length : Int) ≤ 1000 := by omega
                go_wp2_with (first
                  | (at_builtin
                     refine list_by (base := W0.heap.size) (.tmp 75) (.tmp 80) (.slice a3 n3 c3) C2.length (C2.map (Value.int .u8)) 1 [.int .u8 (by8 buf.length)] ?_ ?_ ?_ ?_ ?_ ?_ ?_ ?_ ?_
                     (focus rfl); (focus rfl); (focus rfl); (focus exact hown3.out.alloc _); (focus exact ⟨_, _, rfl, src_at rfl rfl⟩); (focus exact one_by); (focus (have := hle3.out; omega)); (focus (have := hK3.1.size; simp; omega))
                     intro v4 w4 hown4 hg4 hat4
                     have hk4 : Kp W0 w4 := Kp.grown (hK3.alloc _) hg4 (fun k hk => (hown3.out.lt k hk).1)
                     have ht4 := (hT.alloc (.cells #[.int .u8 (by8 buf.length)] 5)).grown hg4 hr3
                     have HT4 := hid ht4
                     have hr4 := hid (ne_box (w := wr.alloc (.cells #[.int .u8 (by8 buf.length)] 5)) hr3 (by have := hT.lt; simp; omega) hat4)
                     have hO4 := hid (OutIs.app (L := C2) (news := [by8 buf.length]) hown4)
                     clear hown4 hg4 hat4
                     obtain ⟨e9, e0, e1, e2, e3, e4, e5⟩ := ht4
                     simp only at e0 e1 e2 e3 e4 e5
                     obtain ⟨⟨a4, n4, c4, rfl⟩, _⟩ := hO4.out)
                  | fail)
                clear d9 d0 d1 d2 d3 d4 d5 e9 e0 e1 e2 e3 e4 e5 hT hr3 hK3 hown3
                have hC3 : Hid ((C2 ++ [by8 buf.length]).length ≤ 2010200) := by have := hle3.out; show _ ≤ _; simp only [List.length_append, List.length_cons, List.length_nil]; omega
                clear hle3
                have HC3 : Hid (C2 ++ [by8 buf.length] = C ++ [pc / 256, by8 pc] ++ [by8 r0, by8 r1, by8 r2, by8 r3] ++ [by8 buf.length]) := by show _ = _; rw [← HC2.out, ← HD.out]
                generalize C2 ++ [by8 buf.length] = C3 at *
                have HK4 := hid hk4
                rename World => W4
                go_loopw [8, 13] (fun o i wr => ∃ q : Nat, q ≤ buf.length ∧ i = .int .i64 q ∧ Kp W0 wr ∧ TBox wr tb ⟨pc, r0, r1, r2, r3, buf⟩ ar kr ∧ o.ownBlock ≠ some tb ∧ Hid (OutIs wr W0.heap.size o (C3 ++ bufB (buf.take q)))) (fun _ i _ => buf.length - (intOf i).toNat)
                case atStart => exact ⟨0, by omega, rfl, HK4.out, HT4.out, hr4.out, by show OutIs _ _ _ _; rw [List.take_zero]; unfold bufB; rw [List.flatMap_nil, List.append_nil]; exact hO4.out⟩
                case round =>
                  clear HK4 hk4 hO4 hr4 HT4
                  obtain ⟨q, hq, rfl, hK5, hT5, hr5, hO5⟩ := hrel
                  obtain ⟨⟨a5, n5, c5, rfl⟩, hown5⟩ := hO5.out
                  have hown5 := hid hown5
                  clear hO5
                  have hT' := hT5
                  obtain ⟨d9, d0, d1, d2, d3, d4, d5⟩ := hT'
                  simp only at d0 d1 d2 d3 d4 d5
                  by_cases hql : q < buf.length
                  · obtain ⟨bx, ox, rfl, hbx, x0, x1⟩ := hb0'.at_ q hql
                    have hle5 : Hid ((C3 ++ bufB (buf.take q)).length ≤ 2012200) := by
                      have := hC3.out
                      show _ ≤ _
                      rw [List.length_append, bufB_len, List.length_take]
                      omega
                    have hts5 : Hid (C3 ++ bufB (buf.take (q + 1)) = C3 ++ bufB (buf.take q) ++ [by8 buf[q].1, by8 buf[q].2]) := by show _ = _; rw [bufB_snoc buf q hql, List.append_assoc]
                    generalize buf[q] = e at *
                    obtain ⟨ev, en⟩ := e
                    simp only at x0 x1
                    generalize C3 ++ bufB (buf.take q) = C4 at *
                    have k6 : (0 : Int) ≤ q := by omega
                    have k7 : (q : Int) < buf.length := by omega
                    have hbl6 := hbx.lt
                    have g6 := hK5.1.size
                    have g7 : bx < wr.heap.size := by omega
                    have hKT : KT W0 tb ⟨pc, r0, r1, r2, r3, buf⟩ (some ⟨bx, ox, none⟩) kr wr := KT.of hK5 hT5
                    have HR5 := hid hr5
                    clear d9 d0 d1 d2 d3 d4 d5 hT5 hr5 hK5
                    go_wp2_with fail
                    go_region_held3 (KT W0 tb ⟨pc, r0, r1, r2, r3, buf⟩ (some ⟨bx, ox, none⟩) kr)
                      (first | exact KT.alloc (by assumption) _ | exact KT.drew (by assumption) | exact hk6)
                      (first
                        | (refine step_by (base := W0.heap.size) (.tmp 89) (.tmp 104) (.slice a5 n5 c5) C4.length (C4.map (Value.int .u8)) 2 [.int .u8 (by8 ev), .int .u8 (by8 en)] ?_ ?_ ?_ ?_ ?_ ?_ ?_ ?_ ?_;
                           (focus rfl); (focus rfl); (focus rfl); (focus exact (hown5.out.alloc _).drew); (focus (first | exact ⟨_, _, rfl, src_new rfl⟩ | exact ⟨_, _, rfl, src_new_d rfl⟩)); (focus exact two_by); (focus (have := hle5.out; omega)); (focus exact (by assumption : KT W0 tb _ _ _ _).1.1.size);
                           intro v6 w6 hown6 hg6 hat6;
                           have hr6 := hid (ne_box HR5.out (by assumption : KT W0 tb _ _ _ _).2.1 hat6);
                           have hk6 : KT W0 tb ⟨pc, r0, r1, r2, r3, buf⟩ (some ⟨bx, ox, none⟩) kr w6 := KT.grown (by assumption) hg6 (fun k hk => (hown5.out.lt k hk).1) HR5.out)
                        | fail)
                    have hO6 := hid (OutIs.app (L := C4) (news := [by8 ev, by8 en]) hown6)
                    obtain ⟨y1, _, _, y2⟩ := hk6
                    clear hown6 hg6 hat6 hown5 hKT
                    go_wp2_with fail
                    go_roundw
                    case rel => exact ⟨q + 1, by omega, by simp, y1, y2.out, hr6.out, by rw [hts5.out]; exact hO6⟩
                    case measure => simp [intOf]; omega
                  · obtain rfl : q = buf.length := by omega
                    rw [List.take_length] at hown5
                    have hfin : Hid (M ++ (th.take (k + 1)).flatMap thrB = C3 ++ bufB buf) := by
                      show _ = _
                      rw [hts.out, ← List.append_assoc, hC, HC3.out]
                      unfold thrB
                      simp only [List.append_assoc, HQ.out]
                    have hO7 : Hid (OutIs wr W0.heap.size (.slice a5 n5 c5) (C3 ++ bufB buf)) := hid ⟨⟨_, _, _, rfl⟩, hown5.out⟩
                    clear hC hown5
                    go_wp2_with fail
                    go_roundw
                    case rel => exact ⟨k + 1, by omega, by simp, hK5, by rw [hfin.out]; exact hO7⟩
                    case measure => simp [intOf]; omega
          · obtain rfl : k = th.length := by omega
            rw [List.take_length] at hown
            have hfin : Hid (M ++ th.flatMap thrB = LL) := by
              show _ = _
              rw [← HM.out, HB0.out, ← HL.out]
              rfl
            rw [hfin.out] at hown
            have hLp : 0 < LL.length := by rw [← HL.out]; exact packB_pos _ _ _
            obtain ⟨a9, c9, e9⟩ := own_exact hown.out
            obtain ⟨rfl, rfl, rfl⟩ : a1 = a9 ∧ n1 = LL.length ∧ c1 = c9 := by simpa using e9
            have hcv := conv_row hown.out hLp
            have hKf := hid (Kp.fin HB.out hK)
            clear hfin e9 hLp hown
            go_wp2_with fail
            go_ret2
            exact ⟨rfl, hKf.out⟩
end Go.Proofs.YtekmcoflagajkaaGreatDoor
