/- TreeSpoilt, walked. -/
import Derived.Test.YtphlbbnmligadaaGreatDoorBunU
import Derived.Test.YtphlbbnmligadaaGreatDoorBunX
import Derived.Test.YtphlbbnmligadaaGreatDoorBunO
import Derived.Deep.CutRange
import Derived.Deep.CutBlock
import Derived.Test.YtphlbbnmligadaaGreatDoorBunM
namespace Go.Proofs.YtphlbbnmligadaaGreatDoor
open Go.RowKit

set_option maxRecDepth 100000 in
set_option maxHeartbeats 16000000 in
theorem treeSpoilt_walk (la : Option Addr) (ln lc : Nat) (how at_ : Nat) (n : Int) (s : ByteArray) (w : World) (hv : Lx.Vars w) (hl : U8s w (In_ w) la ln lc) (hhow : how < 256) (hat : at_ < 256) (hn : (Lit.int .i64 n).wf = true) (hs0 : s.size < 9223372036854775808) :
    Calls Tryz.prog 7 #[.slice la ln lc, .int .u8 how, .int .u8 at_, .int .i64 n, .string s] w fun e w' => e = .returned (.bool true) ∧ Below w.heap.size w w' := by
  have Hl := hid hl
  have Hn := hid hn
  have HV := hid hv
  clear hl hn hv
  go_enter Tryz.func7, Tryz.ntmps7
  go_wp2_with fail
  refine (kinds_any w).mono ?_
  rintro e w1 ⟨rfl, hK1, hb1⟩
  have s1 := hb1.size
  have HK1 := hid (Kp.of hb1)
  have hl1 : U8s w1 (In_ w1) la ln lc := (Hl.out.keep fun b o hb => HK1.out.2 b o hb).widen (In_.mono HK1.out.1.size)
  have hmade := hid (madeP_any w1 la ln lc _ 13 13 hl1 hK1)
  clear hl1 hK1 hb1 Hl
  go_wp2_with fail
  refine hmade.out.mono ?_
  intro e w2 hp2
  obtain ⟨p, cs, rfl, hX, hright, hv3, ht3, ht1, hb2⟩ := hp2.right
  have HK2 := hid (HK1.out.next hb2)
  obtain ⟨n0, va, cv, ta, ct, rfl, ⟨hn0, hn1⟩, hvr, hts, hdw⟩ := hX
  have hrl := right_len hright
  clear hp2 hb2 hmade HK1 hright
  generalize p.vars = vars at *
  generalize p.dom = dom at *
  generalize p.ths = T at *
  have k3 : (at_ : Int) % (T.length : Int) = ((at_ % T.length : Nat) : Int) := rfl
  have k4 : at_ % T.length < T.length := Nat.mod_lt _ (by omega)
  have k7 : IntKind.i64.wrap (at_ : Int) = (at_ : Int) := IntWalk.i64_in _ (by omega)
  generalize at_ % T.length = k at *
  obtain ⟨hrk, hry⟩ := hrl k k4
  have Hry := hid hry
  clear hrl hry
  obtain ⟨ar, ac, f, g, tb, toff, ⟨hf, hg⟩, hst, hthr, rfl, htb, hcell⟩ := hts.pick k k4
  generalize hW : w2.alloc (.cells #[.slice va vars.length cv, .int .i64 dom, .slice (some ⟨tb, toff, none⟩) T.length ct] 27) = W0
  have hB : Below w2.heap.size w2 W0 := by subst hW; exact (Below.refl _ _).alloc (Nat.le_refl _) _
  have hR0 : Hid (W0.heap[w2.heap.size]? = some (.cells #[.slice va vars.length cv, .int .i64 dom, .slice (some ⟨tb, toff, none⟩) T.length ct] 27 (0, 0))) := by subst hW; exact heap_alloc_new w2 _
  have z0 : w2.heap.size < W0.heap.size := by subst hW; simp
  have zz0 : W0.heap.size = w2.heap.size + 1 := by subst hW; simp
  have hWx := hid hW
  clear hW
  have c2 : W0.cell? ⟨w2.heap.size, 2, none⟩ = some (.slice (some ⟨tb, toff, none⟩) T.length ct) := cell_of_heap hR0.out
  have hcl : W0.cell? ⟨tb, toff + k, none⟩ = some (.slice ar T[k].length ac) := (hB.cell (p := ⟨tb, toff + k, none⟩) (show tb < _ by omega)).trans hcell
  have HB := hid (HK2.out.next hB)
  have hg0 : Hid (w2.grownBy W0 none) := hid ⟨hB.os, hB.tape, hB.output, hB.size, fun i hi _ => hB.block i hi⟩
  have HB0 := hid hB
  have Hvr := hid hvr
  have Hst := hid hst
  have Hthr := hid hthr
  have Hdw := hid hdw
  have ltb : tb < W0.heap.size := by omega
  obtain ⟨hct, hcm⟩ : T.length ≤ ct ∧ ct ≤ maxLen := by obtain ⟨_, _, _, _, h, _⟩ := Hthr.out; exact ⟨h.le, h.mx⟩
  unfold maxLen at hcm
  have HBw : Hid (Below w.heap.size w w2) := hid HK2.out.1
  clear hB hvr hst hthr hts hdw hcell HK2
  by_cases hs1 : 100 < s.size
  · have hs2 : (100 : Int) < (s.size : Int) := by omega
    have haw := hid (awake_any W0 (HV.out.next HB.out.1))
    go_upto_region 2 with fail
    rw [hWx.out]
    go_wp2_with fail
    refine haw.out.mono ?_
    rintro e w3 ⟨rfl, hb3⟩
    have HB3 := hid (HB.out.next hb3)
    clear hb3
    go_wp2_with fail
    go_ret
    exact ⟨rfl, HB3.out.1⟩
  · have hs2 : ¬ (100 : Int) < (s.size : Int) := by omega
    have hs3 : s.size ≤ 100 := by omega
    clear hs0 hs1
    go_upto_region 2 with fail
    rw [hWx.out]
    clear hWx
    go_upto_region 5 with fail
    rw [k3]
    clear k3
    generalize T[k] = L at *
    obtain ⟨xs, C, hsrc, hone, hxs, hpk⟩ := Hst.out.pick
    have hsrc0 := hid (hsrc.grown hg0.out (.inl rfl))
    have Hone := hid hone
    have Hxs := hid hxs
    have Hpk := hid hpk
    clear hsrc hone hxs hpk Hst
    go_upto_region 6 with (first
      | (at_builtin
         (go_loud (refine list_st (base := W0.heap.size) (Operand.const (.slice none 0 0)) (.tmp 32) (.slice none 0 0) 0 [] L.length xs ?_ ?_ ?_ ?_ ?_ ?_ ?_ ?_ ?_))
         (go_loud (focus rfl)); (go_loud (focus rfl)); (go_loud (focus rfl))
         (go_loud (focus exact World.ownsRow_nil _ _ _ _))
         (go_loud (focus exact ⟨_, _, rfl, hsrc0.out⟩))
         (go_loud (focus exact Hone.out))
         (go_loud (focus omega)); (go_loud (focus exact Nat.le_refl _))
         intro v' W1 g1 g2 g3
         simp only [Nat.zero_add, List.nil_append] at g1
         obtain ⟨A1, c1, rfl⟩ := own_at g1
         have Hg1 := hid g1
         have Hg2 := hid g2
         clear g1 g2 g3)
      | fail)
    have hg1 : W0.grownBy W1 none := Hg2.out
    have hB1 : Below w2.heap.size w2 W1 := HB0.out.trans ⟨hg1.os, hg1.tape, hg1.output, hg1.size, fun i hi => hg1.block i (by omega) (by simp)⟩
    have hP1 := (hg1.block _ z0 (by simp)).trans hR0.out
    have hz1 := hg1.size
    obtain ⟨W2, hW2⟩ : ∃ W2, W2 = W1.alloc (.cells #[.int .i64 4, .int .i64 0, .int .i64 0, .int .i64 0, .int .i64 0, .int .u8 0, .slice none 0 0, .int .i64 0, .int .i64 0, .int .u8 0, .slice none 0 0, .slice none 0 0, .slice none 0 0] 56) := ⟨_, rfl⟩
    have hB2 : Below W1.heap.size W1 W2 := by subst hW2; exact (Below.refl _ _).alloc (Nat.le_refl _) _
    have HB1 := hid hB1
    have HP2 := hid ((hB2.block _ (by omega)).trans hP1)
    have HB2 := hid hB2
    have HW2 := hid hW2
    have hc1 : L.length ≤ c1 ∧ c1 ≤ maxLen := by
      obtain ⟨_, h⟩ := Hg1.out
      rcases h with ⟨e, h0⟩ | ⟨g', cap, cur, e, -, -, hle, hcm, -⟩
      · simp only [Value.slice.injEq] at e
        obtain ⟨-, e1, rfl⟩ := e
        exact ⟨by omega, Nat.zero_le _⟩
      · simp only [Value.slice.injEq] at e
        obtain ⟨-, e1, rfl⟩ := e
        exact ⟨hle, hcm⟩
    obtain ⟨hc2, hc3⟩ := hc1
    have Hc3 := hid hc3
    unfold maxLen at hc3
    clear hg1 hB1 hP1 hB2 hW2 Hg2 hg0 hsrc0 Hone hcl c2
    go_upto_region 7 with fail
    rw [← HW2.out]
    go_upto_if 38 with fail
    go_cut [14] from 36 to 46 (fun x wx => ∃ bx off, x = .pointer (some ⟨bx, off, none⟩) ∧ wx = W2 ∧ Hid (∃ R lo hi cs y, (y.t.length ≤ 200 ∧ y.e.length ≤ 200) ∧ Fr w W2 R w2.heap.size k T.length bx off va vars cv dom (some ⟨tb, toff, none⟩) ct (.slice A1 L.length c1) lo hi cs y))
    case first =>
      by_cases h0 : L.length = 0
      · have h1 : ¬ (0 : Int) < (L.length : Int) := by omega
        have H0 := hid h0
        clear h0
        go_wp2_with fail
        go_meet
        case rel =>
          have h0 := H0.out
          obtain ⟨R, hR⟩ := fr_box (ta' := A1) HP2.out Hdw.out Hvr.out hn1 (show w.heap.size ≤ w1.heap.size from s1) hn0 (Nat.le_refl _) Hthr.out Hc3.out HB1.out (by omega) HW2.out HBw.out
          have hR' : ∃ R lo hi cs y, (y.t.length ≤ 200 ∧ y.e.length ≤ 200) ∧ Fr w W2 R w2.heap.size k T.length W1.heap.size 0 va vars cv dom (some ⟨tb, toff, none⟩) ct (.slice A1 L.length c1) lo hi cs y := by rw [h0]; exact ⟨R, _, _, _, _, ⟨by decide, by decide⟩, hR⟩
          exact ⟨W1.heap.size, 0, rfl, rfl, hid hR'⟩
      · have h1 : (0 : Int) < (L.length : Int) := by omega
        obtain ⟨tt, rfl⟩ : ∃ tt, A1 = some ⟨tt, 0, none⟩ := by
          obtain ⟨_, h⟩ := Hg1.out
          rcases h with ⟨e, h0'⟩ | ⟨g', cap, cur, e, -, -, hle, hcm, -⟩
          · exact absurd h0' h0
          · simp only [Value.slice.injEq] at e
            exact ⟨g', e.1⟩
        obtain ⟨j4, hj4⟩ : ∃ j, j = at_ / 4 := ⟨_, rfl⟩
        have k8 : IntKind.i64.wrap ((at_ : Int) / 4) = (j4 : Int) := (IntWalk.i64_in _ (by omega)).trans (by omega)
        have k9 : j4 < 256 := by omega
        clear hj4
        have q1 : (0 : Int) ≤ (j4 : Int) % (L.length : Int) := Int.emod_nonneg _ (by omega)
        have q2 : (j4 : Int) % (L.length : Int) < (L.length : Int) := Int.emod_lt_of_pos _ (by omega)
        have H0 := hid h0
        clear h0
        have h0 : L.length ≠ 0 := H0.out
        go_wp2_with fail
        go_meet
        case rel =>
          have him : j4 % L.length < L.length := Nat.mod_lt _ (by omega)
          obtain ⟨f2, g2, ⟨hf2, hg2⟩, hx2, hel2⟩ := Hpk.out _ him
          obtain ⟨R, hR⟩ := fr_row HP2.out Hdw.out Hvr.out hn1 (show w.heap.size ≤ w1.heap.size from s1) hn0 (Nat.le_refl _) hf hg Hthr.out hf2 hg2 (by rw [List.getElem?_eq_getElem him]; exact hx2) hel2 Hxs.out him rfl (by rw [← zz0]; exact Hg1.out) HB1.out HB2.out HBw.out
          exact ⟨tt, j4 % L.length * 13, rfl, rfl, hid ⟨R, _, _, _, _, Hry.out _ (List.getElem_mem him), hR⟩⟩
    case rest =>
      obtain ⟨bx, off, rfl, rfl, hFr⟩ := hcut
      obtain ⟨R, lo, hi, cs, y, hyl, hF⟩ := hFr.out
      have Hyl := hid hyl
      clear hyl
      have HF := hid hF
      clear hF hFr HW2 Hpk Hxs Hg1 Hvr Hthr HB1 HB2 HP2 HB0 hR0 Hc3 Hdw
      go_upto_block 0 with fail
      go_cut [14] from 48 to 129 (fun x wx => x = .pointer (some ⟨bx, off, none⟩) ∧ Hid (SpJ w wx w2.heap.size k T.length bx off (some ⟨tb, toff, none⟩) ct (.slice A1 L.length c1)))
      case first =>
        obtain ⟨u0, u1, u2, u3, v0, v1, v2, v3, sa, ea, sc, ec, rfl, ⟨wk, wr, wv⟩, hdata⟩ := HF.out.open_
        have hbi := HF.out.i_.2.1
        have hbl := HF.out.lt
        have hwin := HF.out.win
        have hfz := HF.out.fz
        have b0 : wc.cell? ⟨bx, off, none⟩ = some (.int .i64 y.kind) := hwin 0 (by omega)
        have b1 : wc.cell? ⟨bx, off + 1, none⟩ = some (.int .i64 y.reg) := hwin 1 (by omega)
        have b2 : wc.cell? ⟨bx, off + 2, none⟩ = some (.int .i64 y.var) := hwin 2 (by omega)
        have b3 : wc.cell? ⟨bx, off + 3, none⟩ = some (u0) := hwin 3 (by omega)
        have b4 : wc.cell? ⟨bx, off + 4, none⟩ = some (u1) := hwin 4 (by omega)
        have b5 : wc.cell? ⟨bx, off + 5, none⟩ = some (u2) := hwin 5 (by omega)
        have b6 : wc.cell? ⟨bx, off + 6, none⟩ = some (u3) := hwin 6 (by omega)
        have b7 : wc.cell? ⟨bx, off + 7, none⟩ = some (v0) := hwin 7 (by omega)
        have b8 : wc.cell? ⟨bx, off + 8, none⟩ = some (v1) := hwin 8 (by omega)
        have b9 : wc.cell? ⟨bx, off + 9, none⟩ = some (v2) := hwin 9 (by omega)
        have b10 : wc.cell? ⟨bx, off + 10, none⟩ = some (v3) := hwin 10 (by omega)
        have b11 : wc.cell? ⟨bx, off + 11, none⟩ = some (.slice sa y.t.length sc) := hwin 11 (by omega)
        have b12 : wc.cell? ⟨bx, off + 12, none⟩ = some (.slice ea y.e.length ec) := hwin 12 (by omega)
        have f0 : wc.frozen? ⟨bx, off, none⟩ = false := hfz _
        have f1 : wc.frozen? ⟨bx, off + 1, none⟩ = false := hfz _
        have f2 : wc.frozen? ⟨bx, off + 2, none⟩ = false := hfz _
        have f3 : wc.frozen? ⟨bx, off + 3, none⟩ = false := hfz _
        have f4 : wc.frozen? ⟨bx, off + 4, none⟩ = false := hfz _
        have f5 : wc.frozen? ⟨bx, off + 5, none⟩ = false := hfz _
        have f6 : wc.frozen? ⟨bx, off + 6, none⟩ = false := hfz _
        have f7 : wc.frozen? ⟨bx, off + 7, none⟩ = false := hfz _
        have f8 : wc.frozen? ⟨bx, off + 8, none⟩ = false := hfz _
        have f9 : wc.frozen? ⟨bx, off + 9, none⟩ = false := hfz _
        have f10 : wc.frozen? ⟨bx, off + 10, none⟩ = false := hfz _
        have f11 : wc.frozen? ⟨bx, off + 11, none⟩ = false := hfz _
        have f12 : wc.frozen? ⟨bx, off + 12, none⟩ = false := hfz _
        have Hda := hid hdata
        have Hwf := hid (And.intro wk (And.intro wr wv))
        clear hwin hfz hdata wk wr wv
        have h10 : (how : Int) % 10 = 0 ∨ (how : Int) % 10 = 1 ∨ (how : Int) % 10 = 2 ∨ (how : Int) % 10 = 3 ∨ (how : Int) % 10 = 4 ∨ (how : Int) % 10 = 5 ∨ (how : Int) % 10 = 6 ∨ (how : Int) % 10 = 7 ∨ (how : Int) % 10 = 8 ∨ (how : Int) % 10 = 9 := by omega
        rcases h10 with h10 | h10 | h10 | h10 | h10 | h10 | h10 | h10 | h10 | h10
        · go_wp2_with fail
          go_meet
          case rel =>
            refine ⟨rfl, hid (HF.out.put [(0, .int .i64 n)] (by simp) (x' := .mk n y.reg y.var y.a y.b y.t y.e) rfl rfl fun hz hk => ?_)⟩
            have D := Hda.out _ (Nat.le_of_eq hz) fun b h1 h2 => hk b (by omega)
            exact StIn.rows Hn.out Hwf.out.2.1 Hwf.out.2.2 D.1 D.2.1 D.2.2.1 D.2.2.2
        · go_wp2_with fail
          go_meet
          case rel =>
            refine ⟨rfl, hid (HF.out.put [(1, .int .i64 n)] (by simp) (x' := .mk y.kind n y.var y.a y.b y.t y.e) rfl rfl fun hz hk => ?_)⟩
            have D := Hda.out _ (Nat.le_of_eq hz) fun b h1 h2 => hk b (by omega)
            exact StIn.rows Hwf.out.1 Hn.out Hwf.out.2.2 D.1 D.2.1 D.2.2.1 D.2.2.2
        · go_wp2_with fail
          go_meet
          case rel =>
            refine ⟨rfl, hid (HF.out.put [(2, .int .i64 n)] (by simp) (x' := .mk y.kind y.reg n y.a y.b y.t y.e) rfl rfl fun hz hk => ?_)⟩
            have D := Hda.out _ (Nat.le_of_eq hz) fun b h1 h2 => hk b (by omega)
            exact StIn.rows Hwf.out.1 Hwf.out.2.1 Hn.out D.1 D.2.1 D.2.2.1 D.2.2.2
        · go_wp2_with fail
          go_meet
          case rel =>
            refine ⟨rfl, hid (HF.out.put [(3, .int .i64 n), (4, .int .i64 n), (5, .int .u8 0), (6, .slice none 0 0)] (by simp) (x' := .mk y.kind y.reg y.var (.mk n n 0 []) y.b y.t y.e) rfl rfl fun hz hk => ?_)⟩
            have D := Hda.out _ (Nat.le_of_eq hz) fun b h1 h2 => hk b (by omega)
            exact StIn.rows Hwf.out.1 Hwf.out.2.1 Hwf.out.2.2 (ExIn.leaf _ _ n n 0 Hn.out Hn.out (by decide)) D.2.1 D.2.2.1 D.2.2.2
        · go_wp2_with (first
            | (go_at_call 21
               with_reducible refine (num_any n _).mono ?_
               rintro e w9 ⟨rfl, hb9⟩
               have HF9 := hid (HF.out.grow hb9)
               have c7 : w9.cell? ⟨bx, off + 7, none⟩ = some v0 := HF9.out.win 7 (by omega)
               have c8 : w9.cell? ⟨bx, off + 8, none⟩ = some v1 := HF9.out.win 8 (by omega)
               have c9 : w9.cell? ⟨bx, off + 9, none⟩ = some v2 := HF9.out.win 9 (by omega)
               have c10 : w9.cell? ⟨bx, off + 10, none⟩ = some v3 := HF9.out.win 10 (by omega)
               have d7 := HF9.out.fz (off + 7)
               have d8 := HF9.out.fz (off + 8)
               have d9 := HF9.out.fz (off + 9)
               have d10 := HF9.out.fz (off + 10)
               have l9 := HF9.out.lt
               have HB9 := hid hb9
               clear hb9)
            | fail)
          go_meet
          case rel =>
            refine ⟨rfl, hid (HF9.out.put [(7, .int .i64 1), (8, .int .i64 n), (9, .int .u8 0), (10, .slice none 0 0)] (by simp) (x' := .mk y.kind y.reg y.var y.a (.mk 1 n 0 []) y.t y.e) rfl rfl fun hz hk => ?_)⟩
            have hi1 := HF.out.i_.1
            have D := Hda.out _ (Nat.le_trans HB9.out.size (Nat.le_of_eq hz)) fun b h1 h2 => (hk b (by omega)).trans (HB9.out.block b (by omega))
            exact StIn.rows Hwf.out.1 Hwf.out.2.1 Hwf.out.2.2 D.1 (ExIn.leaf _ _ 1 n 0 (by decide) Hn.out (by decide)) D.2.2.1 D.2.2.2
        · have HFd := hid (HF.out.grow (W := wc.drew) (Below.refl _ _).drew)
          obtain ⟨l, u, hap⟩ := HFd.out.ap_e (kdS 4)
          have hel : y.e.length ≤ 200 := Hyl.out.2
          obtain ⟨q1, q2, q3⟩ := hap.le
          have q4 : hi ≤ wc.heap.size := HFd.out.i_.1
          have q5 : (y.e.length : Int) < (y.e.length : Int) + 1 := by omega
          have Hap := hid hap
          clear hap
          go_wp2_with fail
          refine wp_region_noPanic ?_
          refine wp_region_held_drew (S := fun _ => True) (by kernel_rfl) trivial (fun hHeld => ?_)
          refine takeL (i := 0) (v := ?_) rfl (by kernel_rfl) (by kernel_rfl) (by kernel_rfl) (fun _ _ _ h => h) (Or.inl ⟨by rfl, ?_⟩) (by assumption) ?_
          rotate_left
          focus (intro w hSw; go_simp; try with_reducible rfl)
          try simp only [Act.put, List.setIfInBounds_toArray, List.set_cons_zero, List.set_cons_succ]
          refine takeL (i := 1) (v := ?_) rfl (by kernel_rfl) (by kernel_rfl) (by kernel_rfl) (fun _ _ _ h => h) (Or.inl ⟨by rfl, ?_⟩) (by assumption) ?_
          rotate_left
          focus (intro w hSw; go_simp; try with_reducible rfl)
          try simp only [Act.put, List.setIfInBounds_toArray, List.set_cons_zero, List.set_cons_succ]
          refine takeL (i := 2) (v := ?_) rfl (by kernel_rfl) (by kernel_rfl) (by kernel_rfl) (fun _ _ _ h => h) (Or.inl ⟨by rfl, ?_⟩) (by assumption) ?_
          rotate_left
          focus (intro w hSw; go_simp; try with_reducible rfl)
          try simp only [Act.put, List.setIfInBounds_toArray, List.set_cons_zero, List.set_cons_succ]
          refine takeL (i := 4) (v := ?_) rfl (by kernel_rfl) (by kernel_rfl) (by kernel_rfl) (fun _ _ _ h => h) (Or.inl ⟨by rfl, ?_⟩) (by assumption) ?_
          rotate_left
          focus (intro w hSw; go_simp; try with_reducible rfl)
          try simp only [Act.put, List.setIfInBounds_toArray, List.set_cons_zero, List.set_cons_succ]
          refine callL2 (i := 3) (j := 6) (by kernel_rfl) rfl rfl (fun K hK => ?_) (fun K hK => ?_)
          · go_simp
            refine hK.out _ _ trivial (fun hHeld => ?_)
            clear hK
            try simp only [Act.put, List.setIfInBounds_toArray, List.set_cons_zero, List.set_cons_succ]
            refine takeL (i := 5) (v := ?_) rfl (by kernel_rfl) (by kernel_rfl) (by kernel_rfl) (fun _ _ _ h => h) (Or.inl ⟨by rfl, ?_⟩) (by assumption) ?_
            rotate_left
            focus (intro w hSw; go_simp; try with_reducible rfl)
            try simp only [Act.put, List.setIfInBounds_toArray, List.set_cons_zero, List.set_cons_succ]
            refine callL (i := 6) (by kernel_rfl) rfl (fun K hK => ?_)
            go_simp
            refine hK.out _ _ trivial (fun hHeld => ?_)
            clear hK
            try simp only [Act.put, List.setIfInBounds_toArray, List.set_cons_zero, List.set_cons_succ]
            refine callL (i := 7) (by kernel_rfl) rfl (fun K hK => ?_)
            refine step_stO (T := 56) wc.drew (n := y.e.length) (base := l) (S := fun b => l ≤ b ∧ b < u ∧ some b ≠ (Value.slice ea y.e.length ec).ownBlock) (Operand.tmp 98) (Operand.tmp 101) (Value.slice ea y.e.length ec) y.e zerS zerC ?_ ?_ ?_ ?_ ?_ ?_ ?_ ?_ ?_ ?_ ?_ ?_
            · rfl
            · rfl
            · rfl
            · rfl
            · rfl
            · exact Hap.out.len
            · exact Hap.out.row.1
            · exact zer_in _ _
            · omega
            · show l ≤ wc.heap.size
              omega
            · exact fun b hb => ⟨by have := hb.2.1; show b < wc.heap.size; omega, hb.2.2⟩
            intro A2 c2 W1 hO hg2 hat2
            obtain ⟨gg, rfl, lg, lc, lm, ne1, ne2, lb, cb, fb, hcg, fg, hJ1, hJ2⟩ := HFd.out.app Hap.out (by omega) (fun W S => kd_in (k := 4) (by decide) W S) hO hg2 hat2
            refine hK.out _ _ trivial (fun hHeld => ?_)
            clear hK
            simp only [Act.put, List.setIfInBounds_toArray, List.set_cons_zero, List.set_cons_succ]
            simp only [kdC, put13_eq] at hJ1 hJ2
            have HJ1 := hid hJ1
            have HJ2 := hid hJ2
            unfold maxLen at lm
            obtain ⟨z0, d0⟩ := hcg 0 (by omega)
            obtain ⟨z1, d1⟩ := hcg 1 (by omega)
            obtain ⟨z2, d2⟩ := hcg 2 (by omega)
            obtain ⟨z3, d3⟩ := hcg 3 (by omega)
            obtain ⟨z4, d4⟩ := hcg 4 (by omega)
            obtain ⟨z5, d5⟩ := hcg 5 (by omega)
            obtain ⟨z6, d6⟩ := hcg 6 (by omega)
            obtain ⟨z7, d7⟩ := hcg 7 (by omega)
            obtain ⟨z8, d8⟩ := hcg 8 (by omega)
            obtain ⟨z9, d9⟩ := hcg 9 (by omega)
            obtain ⟨z10, d10⟩ := hcg 10 (by omega)
            obtain ⟨z11, d11⟩ := hcg 11 (by omega)
            obtain ⟨z12, d12⟩ := hcg 12 (by omega)
            rw [Nat.add_zero] at d0
            clear hcg hJ1 hJ2 hO hg2 hat2
            refine takeL (i := 8) (v := ?_) rfl (by kernel_rfl) (by kernel_rfl) (by kernel_rfl) (fun _ _ _ h => h) (Or.inl ⟨by rfl, ?_⟩) (by assumption) ?_
            rotate_left
            focus (intro w hSw; go_simp; try with_reducible rfl)
            try simp only [Act.put, List.setIfInBounds_toArray, List.set_cons_zero, List.set_cons_succ]
            refine takeL (i := 10) (v := ?_) rfl (by kernel_rfl) (by kernel_rfl) (by kernel_rfl) (fun _ _ _ h => h) (Or.inl ⟨by rfl, ?_⟩) (by assumption) ?_
            rotate_left
            focus (intro w hSw; go_simp; try with_reducible rfl)
            try simp only [Act.put, List.setIfInBounds_toArray, List.set_cons_zero, List.set_cons_succ]
            refine takeL (i := 11) (v := ?_) rfl (by kernel_rfl) (by kernel_rfl) (by kernel_rfl) (fun _ _ _ h => h) (Or.inl ⟨by rfl, ?_⟩) (by assumption) ?_
            rotate_left
            focus (intro w hSw; go_simp; try with_reducible rfl)
            try simp only [Act.put, List.setIfInBounds_toArray, List.set_cons_zero, List.set_cons_succ]
            refine callL2 (i := 9) (j := 12) (by kernel_rfl) rfl rfl (fun K hK => ?_) (fun K hK => ?_)
            · go_simp
              refine hK.out _ _ trivial (fun hHeld => ?_)
              clear hK
              try simp only [Act.put, List.setIfInBounds_toArray, List.set_cons_zero, List.set_cons_succ]
              refine callL (i := 12) (by kernel_rfl) rfl (fun K hK => ?_)
              go_simp
              refine hK.out _ _ trivial (fun hHeld => ?_)
              clear hK
              try simp only [Act.put, List.setIfInBounds_toArray, List.set_cons_zero, List.set_cons_succ]
              refine wpAnyH_done (by kernel_rfl) ?_ _
              refine NoPanic.normal ?_
              go_wp2_with fail
              go_meet
              case rel => exact ⟨rfl, HJ1⟩
            · go_simp
              refine hK.out _ _ trivial (fun hHeld => ?_)
              clear hK
              try simp only [Act.put, List.setIfInBounds_toArray, List.set_cons_zero, List.set_cons_succ]
              refine callL (i := 9) (by kernel_rfl) rfl (fun K hK => ?_)
              go_simp
              refine hK.out _ _ trivial (fun hHeld => ?_)
              clear hK
              try simp only [Act.put, List.setIfInBounds_toArray, List.set_cons_zero, List.set_cons_succ]
              refine wpAnyH_done (by kernel_rfl) ?_ _
              refine NoPanic.normal ?_
              go_wp2_with fail
              go_meet
              case rel => exact ⟨rfl, HJ2⟩
          · go_simp
            refine hK.out _ _ trivial (fun hHeld => ?_)
            clear hK
            try simp only [Act.put, List.setIfInBounds_toArray, List.set_cons_zero, List.set_cons_succ]
            refine callL (i := 3) (by kernel_rfl) rfl (fun K hK => ?_)
            go_simp
            refine hK.out _ _ trivial (fun hHeld => ?_)
            clear hK
            try simp only [Act.put, List.setIfInBounds_toArray, List.set_cons_zero, List.set_cons_succ]
            refine takeL (i := 5) (v := ?_) rfl (by kernel_rfl) (by kernel_rfl) (by kernel_rfl) (fun _ _ _ h => h) (Or.inl ⟨by rfl, ?_⟩) (by assumption) ?_
            rotate_left
            focus (intro w hSw; go_simp; try with_reducible rfl)
            try simp only [Act.put, List.setIfInBounds_toArray, List.set_cons_zero, List.set_cons_succ]
            refine callL (i := 7) (by kernel_rfl) rfl (fun K hK => ?_)
            refine step_stO (T := 56) wc.drew (n := y.e.length) (base := l) (S := fun b => l ≤ b ∧ b < u ∧ some b ≠ (Value.slice ea y.e.length ec).ownBlock) (Operand.tmp 98) (Operand.tmp 101) (Value.slice ea y.e.length ec) y.e zerS zerC ?_ ?_ ?_ ?_ ?_ ?_ ?_ ?_ ?_ ?_ ?_ ?_
            · rfl
            · rfl
            · rfl
            · rfl
            · rfl
            · exact Hap.out.len
            · exact Hap.out.row.1
            · exact zer_in _ _
            · omega
            · show l ≤ wc.heap.size
              omega
            · exact fun b hb => ⟨by have := hb.2.1; show b < wc.heap.size; omega, hb.2.2⟩
            intro A2 c2 W1 hO hg2 hat2
            obtain ⟨gg, rfl, lg, lc, lm, ne1, ne2, lb, cb, fb, hcg, fg, hJ1, hJ2⟩ := HFd.out.app Hap.out (by omega) (fun W S => kd_in (k := 4) (by decide) W S) hO hg2 hat2
            refine hK.out _ _ trivial (fun hHeld => ?_)
            clear hK
            simp only [Act.put, List.setIfInBounds_toArray, List.set_cons_zero, List.set_cons_succ]
            simp only [kdC, put13_eq] at hJ1 hJ2
            have HJ1 := hid hJ1
            have HJ2 := hid hJ2
            unfold maxLen at lm
            obtain ⟨z0, d0⟩ := hcg 0 (by omega)
            obtain ⟨z1, d1⟩ := hcg 1 (by omega)
            obtain ⟨z2, d2⟩ := hcg 2 (by omega)
            obtain ⟨z3, d3⟩ := hcg 3 (by omega)
            obtain ⟨z4, d4⟩ := hcg 4 (by omega)
            obtain ⟨z5, d5⟩ := hcg 5 (by omega)
            obtain ⟨z6, d6⟩ := hcg 6 (by omega)
            obtain ⟨z7, d7⟩ := hcg 7 (by omega)
            obtain ⟨z8, d8⟩ := hcg 8 (by omega)
            obtain ⟨z9, d9⟩ := hcg 9 (by omega)
            obtain ⟨z10, d10⟩ := hcg 10 (by omega)
            obtain ⟨z11, d11⟩ := hcg 11 (by omega)
            obtain ⟨z12, d12⟩ := hcg 12 (by omega)
            rw [Nat.add_zero] at d0
            clear hcg hJ1 hJ2 hO hg2 hat2
            refine takeL (i := 8) (v := ?_) rfl (by kernel_rfl) (by kernel_rfl) (by kernel_rfl) (fun _ _ _ h => h) (Or.inl ⟨by rfl, ?_⟩) (by assumption) ?_
            rotate_left
            focus (intro w hSw; go_simp; try with_reducible rfl)
            try simp only [Act.put, List.setIfInBounds_toArray, List.set_cons_zero, List.set_cons_succ]
            refine takeL (i := 10) (v := ?_) rfl (by kernel_rfl) (by kernel_rfl) (by kernel_rfl) (fun _ _ _ h => h) (Or.inl ⟨by rfl, ?_⟩) (by assumption) ?_
            rotate_left
            focus (intro w hSw; go_simp; try with_reducible rfl)
            try simp only [Act.put, List.setIfInBounds_toArray, List.set_cons_zero, List.set_cons_succ]
            refine takeL (i := 11) (v := ?_) rfl (by kernel_rfl) (by kernel_rfl) (by kernel_rfl) (fun _ _ _ h => h) (Or.inl ⟨by rfl, ?_⟩) (by assumption) ?_
            rotate_left
            focus (intro w hSw; go_simp; try with_reducible rfl)
            try simp only [Act.put, List.setIfInBounds_toArray, List.set_cons_zero, List.set_cons_succ]
            refine callL2 (i := 9) (j := 12) (by kernel_rfl) rfl rfl (fun K hK => ?_) (fun K hK => ?_)
            · go_simp
              refine hK.out _ _ trivial (fun hHeld => ?_)
              clear hK
              try simp only [Act.put, List.setIfInBounds_toArray, List.set_cons_zero, List.set_cons_succ]
              refine callL (i := 12) (by kernel_rfl) rfl (fun K hK => ?_)
              go_simp
              refine hK.out _ _ trivial (fun hHeld => ?_)
              clear hK
              try simp only [Act.put, List.setIfInBounds_toArray, List.set_cons_zero, List.set_cons_succ]
              refine wpAnyH_done (by kernel_rfl) ?_ _
              refine NoPanic.normal ?_
              go_wp2_with fail
              go_meet
              case rel => exact ⟨rfl, HJ1⟩
            · go_simp
              refine hK.out _ _ trivial (fun hHeld => ?_)
              clear hK
              try simp only [Act.put, List.setIfInBounds_toArray, List.set_cons_zero, List.set_cons_succ]
              refine callL (i := 9) (by kernel_rfl) rfl (fun K hK => ?_)
              go_simp
              refine hK.out _ _ trivial (fun hHeld => ?_)
              clear hK
              try simp only [Act.put, List.setIfInBounds_toArray, List.set_cons_zero, List.set_cons_succ]
              refine wpAnyH_done (by kernel_rfl) ?_ _
              refine NoPanic.normal ?_
              go_wp2_with fail
              go_meet
              case rel => exact ⟨rfl, HJ2⟩
        · have p1 : wc.cell? ⟨w2.heap.size, 1, none⟩ = some (.int .i64 dom) := cell_of_heap HF.out.hP
          have p2 : wc.frozen? ⟨w2.heap.size, 1, none⟩ = false := unfrozen HF.out.hP
          have p3 := HF.out.plt
          go_wp2_with fail
          go_meet
          case rel => exact ⟨rfl, hid (HF.out.dom_ Hn.out)⟩
        · have p0 : wc.cell? ⟨w2.heap.size, 0, none⟩ = some (.slice va vars.length cv) := cell_of_heap HF.out.hP
          have p3 := HF.out.plt
          have Hsv := hid HF.out.vr.src
          have hvl : vars.length ≤ 3 := hv3
          go_wp2_with (first
            | (at_builtin
               (go_loud (refine list_strs (base := wc.heap.size) (Operand.const (.slice none 0 0)) (.tmp 113) (.slice none 0 0) 0 [] vars.length (vars.map Value.string) ?_ ?_ ?_ ?_ ?_ ?_ ?_ ?_ ?_))
               (focus rfl); (focus rfl); (focus rfl)
               (go_loud (focus exact World.ownsRow_nil _ _ _ _))
               (go_loud (focus exact ⟨_, _, rfl, Hsv.out⟩))
               (go_loud (focus (intro u hu; obtain ⟨j, -, rfl⟩ := List.mem_map.1 hu; rfl)))
               (go_loud (focus omega)); (go_loud (focus exact Nat.le_refl _))
               intro A2 c2' W1 g1 g2
               simp only [Nat.zero_add, List.nil_append] at g1
               have Hg1b := hid g1
               have Hg2b : Hid (wc.grownBy W1 none) := hid g2
               have gz := g2.size
               clear g1 g2
               simp only [Nat.zero_add])
            | (at_builtin
               (go_loud (refine list_strs (base := wc.heap.size) (.tmp 114) (.tmp 116) (.slice A2 vars.length c2') vars.length (vars.map Value.string) 1 [.string s] ?_ ?_ ?_ ?_ ?_ ?_ ?_ ?_ ?_))
               (go_loud (focus rfl)); (go_loud (focus rfl)); (go_loud (focus rfl))
               (go_loud (focus exact Hg1b.out.kept (World.grownBy_alloc W1 _ none) (by cases (Value.slice A2 vars.length c2').ownBlock <;> simp)))
               (go_loud (focus exact ⟨_, _, rfl, src_new rfl⟩))
               (go_loud (focus (intro u hu; simp only [List.mem_singleton] at hu; subst hu; rfl)))
               (go_loud (focus omega)); (go_loud (focus (simp; omega)))
               intro A3 c3' W3 g3 g4
               have Hg3b := hid g3
               have Hg4b := hid g4
               have gz3 := g4.size
               have hP3 := (g4.block w2.heap.size (by simp; omega) (fun e => by have := (Hg1b.out.lt _ e.symm).1; omega)).trans (((World.grownBy_alloc W1 _ none).block _ (by omega) (by simp)).trans ((Hg2b.out.block _ p3 (by simp)).trans HF.out.hP))
               have q0 : W3.cell? ⟨w2.heap.size, 0, none⟩ = some (.slice va vars.length cv) := cell_of_heap hP3
               have q1 : W3.frozen? ⟨w2.heap.size, 0, none⟩ = false := unfrozen hP3
               have q2 : w2.heap.size < W3.heap.size := (Array.getElem?_eq_some_iff.1 hP3).1
               have HB3 : Hid (Below wc.heap.size wc W3) := by
                 have h1 : Below wc.heap.size wc W1 := ⟨Hg2b.out.os, Hg2b.out.tape, Hg2b.out.output, Hg2b.out.size, fun i hi => Hg2b.out.block i hi (by simp)⟩
                 exact (h1.alloc gz _).grown g4 (by simp; omega) fun k hk => (Hg1b.out.lt k hk).1
               clear g3 g4 hP3)
            | fail)
          go_meet
          case rel =>
            have hv9 : W3.ownsRow wc.heap.size 9 1 (.slice A3 (vars ++ [s]).length c3') (vars ++ [s]).length ((vars ++ [s]).map Value.string) := by simpa using Hg3b.out
            have hj9 := HF.out.vars_ HB3.out hv9
            simp only [List.length_append, List.length_cons, List.length_nil, Nat.zero_add] at hj9
            exact ⟨rfl, hid hj9⟩
        · go_wp2_with (first
            | (go_at_call 21
               with_reducible refine (num_any 0 _).mono ?_
               rintro e w9 ⟨rfl, hb9⟩
               have HF9 := hid (HF.out.grow hb9)
               have HB9 := hid hb9
               clear hb9)
            | (go_at_call 21
               with_reducible refine (num_any 1 _).mono ?_
               rintro e w10 ⟨rfl, hb10⟩
               have HFx := hid (HF9.out.grow hb10)
               have c3 : w10.cell? ⟨bx, off + 3, none⟩ = some u0 := HFx.out.win 3 (by omega)
               have c4 : w10.cell? ⟨bx, off + 4, none⟩ = some u1 := HFx.out.win 4 (by omega)
               have c5 : w10.cell? ⟨bx, off + 5, none⟩ = some u2 := HFx.out.win 5 (by omega)
               have c6 : w10.cell? ⟨bx, off + 6, none⟩ = some u3 := HFx.out.win 6 (by omega)
               have d3 := HFx.out.fz (off + 3)
               have d4 := HFx.out.fz (off + 4)
               have d5 := HFx.out.fz (off + 5)
               have d6 := HFx.out.fz (off + 6)
               have l10 := HFx.out.lt
               have HB10 := hid hb10
               clear hb10)
            | fail)
          go_meet
          case rel =>
            have hW : ((((w10.setCell ⟨bx, off + 3, none⟩ (.int .i64 3)).setCell ⟨bx, off + 3 + 1, none⟩ (.int .i64 0)).setCell ⟨bx, off + 3 + 2, none⟩ (.int .u8 (n % 256))).setCell ⟨bx, off + 3 + 3, none⟩ (.slice (some ⟨w10.heap.size, 0, none⟩) 2 2)).alloc (.cells #[.int .i64 1, .int .i64 0, .int .u8 0, .slice none 0 0, .int .i64 1, .int .i64 1, .int .u8 0, .slice none 0 0] 44) =
                [(3, Value.int .i64 3), (4, Value.int .i64 0), (5, Value.int .u8 (n % 256)), (6, Value.slice (some ⟨w10.heap.size, 0, none⟩) 2 2)].foldl (fun w p => w.setCell ⟨bx, off + p.1, none⟩ p.2) (w10.alloc (.cells #[.int .i64 1, .int .i64 0, .int .u8 0, .slice none 0 0, .int .i64 1, .int .i64 1, .int .u8 0, .slice none 0 0] 44)) := by
              simp only [List.foldl]
              rw [World.setCell_alloc_past _ _ _ _ l10, World.setCell_alloc_past _ _ _ _ (by simpa using l10), World.setCell_alloc_past _ _ _ _ (by simpa using l10), World.setCell_alloc_past _ _ _ _ (by simpa using l10)]
            have hcn : ∀ j, (w10.alloc (.cells #[.int .i64 1, .int .i64 0, .int .u8 0, .slice none 0 0, .int .i64 1, .int .i64 1, .int .u8 0, .slice none 0 0] 44)).cell? ⟨w10.heap.size, j, none⟩ = #[Value.int .i64 1, .int .i64 0, .int .u8 0, .slice none 0 0, .int .i64 1, .int .i64 1, .int .u8 0, .slice none 0 0][j]? := fun j => World.cell?_alloc_new w10 _ _ j
            have hBa : Below w10.heap.size w10 (w10.alloc (.cells #[.int .i64 1, .int .i64 0, .int .u8 0, .slice none 0 0, .int .i64 1, .int .i64 1, .int .u8 0, .slice none 0 0] 44)) := (Below.refl _ _).alloc (Nat.le_refl _) _
            have hza : (w10.alloc (.cells #[.int .i64 1, .int .i64 0, .int .u8 0, .slice none 0 0, .int .i64 1, .int .i64 1, .int .u8 0, .slice none 0 0] 44)).heap.size = w10.heap.size + 1 := by simp
            generalize w10.alloc (.cells #[.int .i64 1, .int .i64 0, .int .u8 0, .slice none 0 0, .int .i64 1, .int .i64 1, .int .u8 0, .slice none 0 0] 44) = w11 at hW hcn hBa hza
            have HFz := HFx.out.grow hBa
            refine ⟨rfl, hid (HFz.put [(3, .int .i64 3), (4, .int .i64 0), (5, .int .u8 (n % 256)), (6, .slice (some ⟨w10.heap.size, 0, none⟩) 2 2)] (by simp) (x' := .mk y.kind y.reg y.var (.mk 3 0 (n % 256) [.mk 1 0 0 [], .mk 1 1 0 []]) y.b y.t y.e) hW rfl fun hz hk => ?_)⟩
            have hi1 := HF.out.i_.1
            have hs9 := HB9.out.size
            have hs10 := HB10.out.size
            have hpl := HF.out.plt
            have D := Hda.out _ (by omega) fun b h1 h2 => (hk b (by omega)).trans ((hBa.block b (by omega)).trans ((HB10.out.block b (by omega)).trans (HB9.out.block b (by omega))))
            refine StIn.rows Hwf.out.1 Hwf.out.2.1 Hwf.out.2.2 (ExIn.mk2 (u0 := .int .i64 1) (u1 := .int .i64 0) (u2 := .int .u8 0) (u3 := .slice none 0 0) (v0 := .int .i64 1) (v1 := .int .i64 1) (v2 := .int .u8 0) (v3 := .slice none 0 0) (by decide) (by decide) (WalkArith.wf_u8 (by omega)) ⟨by omega, by omega⟩ (fun j => ?_) (ExIn.leaf _ _ 1 0 0 (by decide) (by decide) (by decide)) (ExIn.leaf _ _ 1 1 0 (by decide) (by decide) (by decide))) D.2.1 D.2.2.1 D.2.2.2
            exact (World.cell?_of_block (a := ⟨w10.heap.size, j, none⟩) (hk w10.heap.size (by omega))).trans (hcn j)
        · have HFd := hid (HF.out.grow (W := wc.drew) (Below.refl _ _).drew)
          obtain ⟨l, u, hap⟩ := HFd.out.ap_t (kdS 5)
          have hel : y.t.length ≤ 200 := Hyl.out.1
          obtain ⟨q1, q2, q3⟩ := hap.le
          have q4 : hi ≤ wc.heap.size := HFd.out.i_.1
          have q5 : (y.t.length : Int) < (y.t.length : Int) + 1 := by omega
          have Hap := hid hap
          clear hap
          go_wp2_with fail
          refine wp_region_noPanic ?_
          refine wp_region_held_drew (S := fun _ => True) (by kernel_rfl) trivial (fun hHeld => ?_)
          refine takeL (i := 0) (v := ?_) rfl (by kernel_rfl) (by kernel_rfl) (by kernel_rfl) (fun _ _ _ h => h) (Or.inl ⟨by rfl, ?_⟩) (by assumption) ?_
          rotate_left
          focus (intro w hSw; go_simp; try with_reducible rfl)
          try simp only [Act.put, List.setIfInBounds_toArray, List.set_cons_zero, List.set_cons_succ]
          refine takeL (i := 1) (v := ?_) rfl (by kernel_rfl) (by kernel_rfl) (by kernel_rfl) (fun _ _ _ h => h) (Or.inl ⟨by rfl, ?_⟩) (by assumption) ?_
          rotate_left
          focus (intro w hSw; go_simp; try with_reducible rfl)
          try simp only [Act.put, List.setIfInBounds_toArray, List.set_cons_zero, List.set_cons_succ]
          refine takeL (i := 2) (v := ?_) rfl (by kernel_rfl) (by kernel_rfl) (by kernel_rfl) (fun _ _ _ h => h) (Or.inl ⟨by rfl, ?_⟩) (by assumption) ?_
          rotate_left
          focus (intro w hSw; go_simp; try with_reducible rfl)
          try simp only [Act.put, List.setIfInBounds_toArray, List.set_cons_zero, List.set_cons_succ]
          refine takeL (i := 4) (v := ?_) rfl (by kernel_rfl) (by kernel_rfl) (by kernel_rfl) (fun _ _ _ h => h) (Or.inl ⟨by rfl, ?_⟩) (by assumption) ?_
          rotate_left
          focus (intro w hSw; go_simp; try with_reducible rfl)
          try simp only [Act.put, List.setIfInBounds_toArray, List.set_cons_zero, List.set_cons_succ]
          refine callL2 (i := 3) (j := 6) (by kernel_rfl) rfl rfl (fun K hK => ?_) (fun K hK => ?_)
          · go_simp
            refine hK.out _ _ trivial (fun hHeld => ?_)
            clear hK
            try simp only [Act.put, List.setIfInBounds_toArray, List.set_cons_zero, List.set_cons_succ]
            refine takeL (i := 5) (v := ?_) rfl (by kernel_rfl) (by kernel_rfl) (by kernel_rfl) (fun _ _ _ h => h) (Or.inl ⟨by rfl, ?_⟩) (by assumption) ?_
            rotate_left
            focus (intro w hSw; go_simp; try with_reducible rfl)
            try simp only [Act.put, List.setIfInBounds_toArray, List.set_cons_zero, List.set_cons_succ]
            refine callL (i := 6) (by kernel_rfl) rfl (fun K hK => ?_)
            go_simp
            refine hK.out _ _ trivial (fun hHeld => ?_)
            clear hK
            try simp only [Act.put, List.setIfInBounds_toArray, List.set_cons_zero, List.set_cons_succ]
            refine callL (i := 7) (by kernel_rfl) rfl (fun K hK => ?_)
            refine step_stO (T := 56) wc.drew (n := y.t.length) (base := l) (S := fun b => l ≤ b ∧ b < u ∧ some b ≠ (Value.slice sa y.t.length sc).ownBlock) (Operand.tmp 52) (Operand.tmp 55) (Value.slice sa y.t.length sc) y.t zerS zerC ?_ ?_ ?_ ?_ ?_ ?_ ?_ ?_ ?_ ?_ ?_ ?_
            · rfl
            · rfl
            · rfl
            · rfl
            · rfl
            · exact Hap.out.len
            · exact Hap.out.row.1
            · exact zer_in _ _
            · omega
            · show l ≤ wc.heap.size
              omega
            · exact fun b hb => ⟨by have := hb.2.1; show b < wc.heap.size; omega, hb.2.2⟩
            intro A2 c2 W1 hO hg2 hat2
            obtain ⟨gg, rfl, lg, lc, lm, ne1, ne2, lb, cb, fb, hcg, fg, hJ1, hJ2⟩ := HFd.out.app Hap.out (by omega) (fun W S => kd_in (k := 5) (by decide) W S) hO hg2 hat2
            refine hK.out _ _ trivial (fun hHeld => ?_)
            clear hK
            simp only [Act.put, List.setIfInBounds_toArray, List.set_cons_zero, List.set_cons_succ]
            simp only [kdC, put13_eq] at hJ1 hJ2
            have HJ1 := hid hJ1
            have HJ2 := hid hJ2
            unfold maxLen at lm
            obtain ⟨z0, d0⟩ := hcg 0 (by omega)
            obtain ⟨z1, d1⟩ := hcg 1 (by omega)
            obtain ⟨z2, d2⟩ := hcg 2 (by omega)
            obtain ⟨z3, d3⟩ := hcg 3 (by omega)
            obtain ⟨z4, d4⟩ := hcg 4 (by omega)
            obtain ⟨z5, d5⟩ := hcg 5 (by omega)
            obtain ⟨z6, d6⟩ := hcg 6 (by omega)
            obtain ⟨z7, d7⟩ := hcg 7 (by omega)
            obtain ⟨z8, d8⟩ := hcg 8 (by omega)
            obtain ⟨z9, d9⟩ := hcg 9 (by omega)
            obtain ⟨z10, d10⟩ := hcg 10 (by omega)
            obtain ⟨z11, d11⟩ := hcg 11 (by omega)
            obtain ⟨z12, d12⟩ := hcg 12 (by omega)
            rw [Nat.add_zero] at d0
            clear hcg hJ1 hJ2 hO hg2 hat2
            refine takeL (i := 8) (v := ?_) rfl (by kernel_rfl) (by kernel_rfl) (by kernel_rfl) (fun _ _ _ h => h) (Or.inl ⟨by rfl, ?_⟩) (by assumption) ?_
            rotate_left
            focus (intro w hSw; go_simp; try with_reducible rfl)
            try simp only [Act.put, List.setIfInBounds_toArray, List.set_cons_zero, List.set_cons_succ]
            refine takeL (i := 10) (v := ?_) rfl (by kernel_rfl) (by kernel_rfl) (by kernel_rfl) (fun _ _ _ h => h) (Or.inl ⟨by rfl, ?_⟩) (by assumption) ?_
            rotate_left
            focus (intro w hSw; go_simp; try with_reducible rfl)
            try simp only [Act.put, List.setIfInBounds_toArray, List.set_cons_zero, List.set_cons_succ]
            refine takeL (i := 11) (v := ?_) rfl (by kernel_rfl) (by kernel_rfl) (by kernel_rfl) (fun _ _ _ h => h) (Or.inl ⟨by rfl, ?_⟩) (by assumption) ?_
            rotate_left
            focus (intro w hSw; go_simp; try with_reducible rfl)
            try simp only [Act.put, List.setIfInBounds_toArray, List.set_cons_zero, List.set_cons_succ]
            refine callL2 (i := 9) (j := 12) (by kernel_rfl) rfl rfl (fun K hK => ?_) (fun K hK => ?_)
            · go_simp
              refine hK.out _ _ trivial (fun hHeld => ?_)
              clear hK
              try simp only [Act.put, List.setIfInBounds_toArray, List.set_cons_zero, List.set_cons_succ]
              refine callL (i := 12) (by kernel_rfl) rfl (fun K hK => ?_)
              go_simp
              refine hK.out _ _ trivial (fun hHeld => ?_)
              clear hK
              try simp only [Act.put, List.setIfInBounds_toArray, List.set_cons_zero, List.set_cons_succ]
              refine wpAnyH_done (by kernel_rfl) ?_ _
              refine NoPanic.normal ?_
              go_wp2_with fail
              go_meet
              case rel => exact ⟨rfl, HJ1⟩
            · go_simp
              refine hK.out _ _ trivial (fun hHeld => ?_)
              clear hK
              try simp only [Act.put, List.setIfInBounds_toArray, List.set_cons_zero, List.set_cons_succ]
              refine callL (i := 9) (by kernel_rfl) rfl (fun K hK => ?_)
              go_simp
              refine hK.out _ _ trivial (fun hHeld => ?_)
              clear hK
              try simp only [Act.put, List.setIfInBounds_toArray, List.set_cons_zero, List.set_cons_succ]
              refine wpAnyH_done (by kernel_rfl) ?_ _
              refine NoPanic.normal ?_
              go_wp2_with fail
              go_meet
              case rel => exact ⟨rfl, HJ2⟩
          · go_simp
            refine hK.out _ _ trivial (fun hHeld => ?_)
            clear hK
            try simp only [Act.put, List.setIfInBounds_toArray, List.set_cons_zero, List.set_cons_succ]
            refine callL (i := 3) (by kernel_rfl) rfl (fun K hK => ?_)
            go_simp
            refine hK.out _ _ trivial (fun hHeld => ?_)
            clear hK
            try simp only [Act.put, List.setIfInBounds_toArray, List.set_cons_zero, List.set_cons_succ]
            refine takeL (i := 5) (v := ?_) rfl (by kernel_rfl) (by kernel_rfl) (by kernel_rfl) (fun _ _ _ h => h) (Or.inl ⟨by rfl, ?_⟩) (by assumption) ?_
            rotate_left
            focus (intro w hSw; go_simp; try with_reducible rfl)
            try simp only [Act.put, List.setIfInBounds_toArray, List.set_cons_zero, List.set_cons_succ]
            refine callL (i := 7) (by kernel_rfl) rfl (fun K hK => ?_)
            refine step_stO (T := 56) wc.drew (n := y.t.length) (base := l) (S := fun b => l ≤ b ∧ b < u ∧ some b ≠ (Value.slice sa y.t.length sc).ownBlock) (Operand.tmp 52) (Operand.tmp 55) (Value.slice sa y.t.length sc) y.t zerS zerC ?_ ?_ ?_ ?_ ?_ ?_ ?_ ?_ ?_ ?_ ?_ ?_
            · rfl
            · rfl
            · rfl
            · rfl
            · rfl
            · exact Hap.out.len
            · exact Hap.out.row.1
            · exact zer_in _ _
            · omega
            · show l ≤ wc.heap.size
              omega
            · exact fun b hb => ⟨by have := hb.2.1; show b < wc.heap.size; omega, hb.2.2⟩
            intro A2 c2 W1 hO hg2 hat2
            obtain ⟨gg, rfl, lg, lc, lm, ne1, ne2, lb, cb, fb, hcg, fg, hJ1, hJ2⟩ := HFd.out.app Hap.out (by omega) (fun W S => kd_in (k := 5) (by decide) W S) hO hg2 hat2
            refine hK.out _ _ trivial (fun hHeld => ?_)
            clear hK
            simp only [Act.put, List.setIfInBounds_toArray, List.set_cons_zero, List.set_cons_succ]
            simp only [kdC, put13_eq] at hJ1 hJ2
            have HJ1 := hid hJ1
            have HJ2 := hid hJ2
            unfold maxLen at lm
            obtain ⟨z0, d0⟩ := hcg 0 (by omega)
            obtain ⟨z1, d1⟩ := hcg 1 (by omega)
            obtain ⟨z2, d2⟩ := hcg 2 (by omega)
            obtain ⟨z3, d3⟩ := hcg 3 (by omega)
            obtain ⟨z4, d4⟩ := hcg 4 (by omega)
            obtain ⟨z5, d5⟩ := hcg 5 (by omega)
            obtain ⟨z6, d6⟩ := hcg 6 (by omega)
            obtain ⟨z7, d7⟩ := hcg 7 (by omega)
            obtain ⟨z8, d8⟩ := hcg 8 (by omega)
            obtain ⟨z9, d9⟩ := hcg 9 (by omega)
            obtain ⟨z10, d10⟩ := hcg 10 (by omega)
            obtain ⟨z11, d11⟩ := hcg 11 (by omega)
            obtain ⟨z12, d12⟩ := hcg 12 (by omega)
            rw [Nat.add_zero] at d0
            clear hcg hJ1 hJ2 hO hg2 hat2
            refine takeL (i := 8) (v := ?_) rfl (by kernel_rfl) (by kernel_rfl) (by kernel_rfl) (fun _ _ _ h => h) (Or.inl ⟨by rfl, ?_⟩) (by assumption) ?_
            rotate_left
            focus (intro w hSw; go_simp; try with_reducible rfl)
            try simp only [Act.put, List.setIfInBounds_toArray, List.set_cons_zero, List.set_cons_succ]
            refine takeL (i := 10) (v := ?_) rfl (by kernel_rfl) (by kernel_rfl) (by kernel_rfl) (fun _ _ _ h => h) (Or.inl ⟨by rfl, ?_⟩) (by assumption) ?_
            rotate_left
            focus (intro w hSw; go_simp; try with_reducible rfl)
            try simp only [Act.put, List.setIfInBounds_toArray, List.set_cons_zero, List.set_cons_succ]
            refine takeL (i := 11) (v := ?_) rfl (by kernel_rfl) (by kernel_rfl) (by kernel_rfl) (fun _ _ _ h => h) (Or.inl ⟨by rfl, ?_⟩) (by assumption) ?_
            rotate_left
            focus (intro w hSw; go_simp; try with_reducible rfl)
            try simp only [Act.put, List.setIfInBounds_toArray, List.set_cons_zero, List.set_cons_succ]
            refine callL2 (i := 9) (j := 12) (by kernel_rfl) rfl rfl (fun K hK => ?_) (fun K hK => ?_)
            · go_simp
              refine hK.out _ _ trivial (fun hHeld => ?_)
              clear hK
              try simp only [Act.put, List.setIfInBounds_toArray, List.set_cons_zero, List.set_cons_succ]
              refine callL (i := 12) (by kernel_rfl) rfl (fun K hK => ?_)
              go_simp
              refine hK.out _ _ trivial (fun hHeld => ?_)
              clear hK
              try simp only [Act.put, List.setIfInBounds_toArray, List.set_cons_zero, List.set_cons_succ]
              refine wpAnyH_done (by kernel_rfl) ?_ _
              refine NoPanic.normal ?_
              go_wp2_with fail
              go_meet
              case rel => exact ⟨rfl, HJ1⟩
            · go_simp
              refine hK.out _ _ trivial (fun hHeld => ?_)
              clear hK
              try simp only [Act.put, List.setIfInBounds_toArray, List.set_cons_zero, List.set_cons_succ]
              refine callL (i := 9) (by kernel_rfl) rfl (fun K hK => ?_)
              go_simp
              refine hK.out _ _ trivial (fun hHeld => ?_)
              clear hK
              try simp only [Act.put, List.setIfInBounds_toArray, List.set_cons_zero, List.set_cons_succ]
              refine wpAnyH_done (by kernel_rfl) ?_ _
              refine NoPanic.normal ?_
              go_wp2_with fail
              go_meet
              case rel => exact ⟨rfl, HJ2⟩
      case rest =>
        obtain ⟨rfl, hJ⟩ := hcut
        obtain ⟨va', vars', cv', dom', hP, hd, hv, hth, ⟨L', a', c', htv, hrow⟩, ⟨u0, u1, u2, u3, xA, ⟨e3, e4, e5, e6⟩, hxA⟩, hbx, hBJ⟩ := hJ.out
        obtain ⟨xs2, hsrc2, hone2, hfin⟩ := hth.fin k4
        simp only [Value.slice.injEq] at htv
        obtain ⟨rfl, hLl, rfl⟩ := htv
        have c2 : wc.cell? ⟨w2.heap.size, 2, none⟩ = some (.slice (some ⟨tb, toff, none⟩) T.length ct) := cell_of_heap hP
        have hpl : w2.heap.size < wc.heap.size := (Array.getElem?_eq_some_iff.1 hP).1
        have HP := hid hP
        have Hd := hid hd
        have Hv := hid hv
        have Hrow := hid hrow
        have HLl := hid hLl
        have HxA := hid hxA
        have HBJ := hid hBJ
        have Hsrc2 := hid hsrc2
        have Hone2 := hid hone2
        have Hfin := hid hfin
        have HE := hid (And.intro e3 (And.intro e4 (And.intro e5 e6)))
        clear hP hd hv hth hrow hLl hxA hBJ hsrc2 hone2 hfin hJ e3 e4 e5 e6 HF z0 zz0 ltb hs2 hs3 hz1
        go_upto_region 30 with (first
          | (at_builtin
             (go_loud (refine list_ths (base := wc.heap.size) (Operand.const (.slice none 0 0)) (.tmp 131) T.length xs2 ?_ ?_ ?_ ?_ ?_ ?_ ?_ ?_))
             (go_loud (focus rfl)); (go_loud (focus rfl)); (go_loud (focus rfl))
             (go_loud (focus exact ⟨_, _, rfl, Hsrc2.out⟩))
             (go_loud (focus exact Hone2.out))
             (go_loud (focus omega)); (go_loud (focus exact Nat.le_refl _))
             intro A2 c2' W1 g1 g2
             obtain ⟨gg, rfl, gB, gl, ⟨uk, hck⟩, hfk, gc1, gc2, hT⟩ := Hfin.out W1 A2 c2' g2 g1
             have hP1 := (g2.block _ hpl (by simp)).trans HP.out
             have p0 : W1.cell? ⟨w2.heap.size, 2, none⟩ = some (.slice (some ⟨tb, toff, none⟩) T.length ct) := cell_of_heap hP1
             have p1 : W1.frozen? ⟨w2.heap.size, 2, none⟩ = false := unfrozen hP1
             have fk : W1.frozen? ⟨gg, k, none⟩ = false := hfk k
             have hne1 : ¬ gg = w2.heap.size := by omega
             have hne2 : ¬ w2.heap.size = gg := by omega
             have HP1 := hid hP1
             have HT := hid hT
             have Hg2 := hid g2
             have gz := g2.size
             unfold maxLen at gc2
             clear hfk hP1 hT g1 g2)
          | fail)
        go_upto_region 31 with fail
        generalize hW3 : (W1.setCell ⟨w2.heap.size, 2, none⟩ (.slice (some ⟨gg, 0, none⟩) T.length c2')).setCell ⟨gg, k, none⟩ (.slice A1 L.length c1) = W3
        obtain ⟨T', hT1, hPg, hX3, ⟨x0, x1, x2⟩, ⟨y0, y1, y2, y3⟩, hB3, z1, z2⟩ := sp_fin HP1.out Hg2.out hpl hW3 gB gl hck HT.out Hrow.out HLl.out Hv.out Hd.out HxA.out HE.out hbx HBJ.out HBw.out.size
        have h1 : Hid (∀ W, Kp W3 W → Calls Tryz.prog 20 #[.agg #[.slice va' vars'.length cv', .int .i64 dom', .slice (some ⟨gg, 0, none⟩) T.length c2'], .agg #[.slice va' vars'.length cv', .int .i64 dom', .slice (some ⟨gg, 0, none⟩) T.length c2'], .agg #[u0, u1, u2, u3]] W fun e w' => e = .returned (.bool true) ∧ Below W.heap.size W w') := fun W hW => same_any _ _ _ _ _ _ W (hW.pg hPg) (hW.pg hPg) (hW.ex hX3)
        have h4 : Hid (∀ W, Kp W3 W → Calls Tryz.prog 9 #[] W fun e w' => e = .returned (.bool true) ∧ Below W.heap.size W w') := fun W hW => awake_any W ((HV.out.next hB3).next hW.1)
        have HB3 := hid hB3
        clear hW3 hPg hX3 hB3 hT1 HP1 Hg2 HT Hrow HLl Hv Hd HxA HE HBJ HP Hsrc2 Hone2 Hfin c2 p0 p1 fk hck gz gB gl hne1 hne2 gc1 gc2 hpl hbx
        have hk0 : Kp W3 W3 := Kp.refl _
        go_region_held3 (Kp W3)
          (first | exact Kp.drew hk0 | assumption)
          (first
            | (go_at_call 9
               with_reducible refine (h4.out _ ?_).mono ?_
               (focus assumption)
               rintro e w5 ⟨rfl, hb5⟩
               have hk5 : Kp W3 w5 := Kp.next (by assumption) hb5)
            | (go_at_call 20
               with_reducible refine (h1.out _ ?_).mono ?_
               (focus assumption)
               rintro e w7 ⟨rfl, hb7⟩
               have hk7 : Kp W3 w7 := Kp.next (by assumption) hb7)
            | fail)
        all_goals
          go_wp2_with fail
          go_ret
          exact ⟨rfl, Kp.fin HB3.out hk7⟩
end Go.Proofs.YtphlbbnmligadaaGreatDoor
