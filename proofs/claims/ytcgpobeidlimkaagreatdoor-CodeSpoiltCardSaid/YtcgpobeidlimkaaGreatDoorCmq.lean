/- Programs as code: the program's word. -/
import Derived.Test.YtcgpobeidlimkaaGreatDoorCmp
import Derived.Test.YtcgpobeidlimkaaGreatDoorCpP
import Derived.Test.YtcgpobeidlimkaaGreatDoorRgP
namespace Go.Proofs.YtcgpobeidlimkaaGreatDoor
open Go.RowKit

theorem src_at {w : World} {T : TypeId} {size m b : Nat} {news : List Value} (hb : b = w.heap.size) (hl : news.length = m * size) : SrcAt (w.alloc (.cells news.toArray T)) size (some ⟨b, 0, none⟩) m news := by subst hb; exact src_new hl

set_option maxRecDepth 100000 in
set_option maxHeartbeats 8000000 in
theorem pCompile_any (p : Pg) (cs : List Value) (w : World) (hin : PgIn w (In_ w) cs p) : Calls Tryz.prog 11 #[.agg cs.toArray] w (CmpPost p w) := by
  have hin0 := hin
  obtain ⟨va, cv, ta, ct, rfl, hv, ht, hwf⟩ := hin
  have hcnt := hid (rightP_cnt (p := p))
  have hbad := hid (fun w' => CmpPost.bad (p := p) (w := w) (w' := w'))
  have hgood := hid (fun w' v => CmpPost.good (p := p) (w := w) (w' := w') (v := v))
  have hvc := hv.le
  have hvm := hv.mx
  have htc := ht.le
  have htm := ht.mx
  unfold maxLen at hvm htm
  generalize hW : (w.alloc (.cells #[.slice va p.vars.length cv, .int .i64 p.dom, .slice ta p.ths.length ct] 25)).alloc (.cells #[.int .i64 0, .int .i64 0, .slice none 0 0] 30) = W0
  have hB : Below w.heap.size w W0 := by subst hW; exact ((Below.refl _ _).alloc (Nat.le_refl _) _).alloc (by simp) _
  have zz : W0.heap.size = w.heap.size + 2 := by subst hW; simp
  have c0 : W0.cell? ⟨w.heap.size, 0, none⟩ = some (.slice va p.vars.length cv) := by subst hW; go_simp
  have c1 : W0.cell? ⟨w.heap.size, 1, none⟩ = some (.int .i64 p.dom) := by subst hW; go_simp
  have c2 : W0.cell? ⟨w.heap.size, 2, none⟩ = some (.slice ta p.ths.length ct) := by subst hW; go_simp
  have r0 : W0.cell? ⟨w.heap.size + 1, 0, none⟩ = some (.int .i64 0) := by subst hW; go_simp
  have r1 : W0.cell? ⟨w.heap.size + 1, 1, none⟩ = some (.int .i64 0) := by subst hW; go_simp
  have r2 : W0.cell? ⟨w.heap.size + 1, 2, none⟩ = some (.slice none 0 0) := by subst hW; go_simp
  have rf : ∀ o, W0.frozen? ⟨w.heap.size + 1, o, none⟩ = false := by subst hW; intro o; go_simp
  have hR := hid (pRight_any p _ W0 ((Kp.of hB).pg hin0))
  have HB := hid hB
  have hWx := hid hW
  have Ht := hid ht
  clear hW hin0 hv ht hB
  go_enter Tryz.func11, Tryz.ntmps11
  go_wp2_with fail
  rw [hWx.out]
  refine hR.out.mono ?_
  rintro e w1 ⟨rfl, hb1⟩
  have hK1 : Kp W0 w1 := Kp.of hb1
  have z1 : w.heap.size + 2 ≤ w1.heap.size := by have := hb1.size; omega
  have z1a : w.heap.size < w1.heap.size := by omega
  have z1b : w.heap.size + 1 < w1.heap.size := by omega
  have hf1 : ∀ o, w1.frozen? ⟨w.heap.size + 1, o, none⟩ = false := fun o => (World.frozen?_of_block (a := ⟨w.heap.size + 1, o, none⟩) (hb1.block (w.heap.size + 1) (by omega))).trans (rf o)
  have HK1 := hid hK1
  have HB1 := hid (Kp.fin HB.out hK1)
  clear hb1 rf
  have x0 := (hK1.2 (w.heap.size) 0 (by omega)).trans c0
  have x1 := (hK1.2 (w.heap.size) 1 (by omega)).trans c1
  have x2 := (hK1.2 (w.heap.size) 2 (by omega)).trans c2
  have y0 := (hK1.2 (w.heap.size + 1) 0 (by omega)).trans r0
  have y1 := (hK1.2 (w.heap.size + 1) 1 (by omega)).trans r1
  have y2 := (hK1.2 (w.heap.size + 1) 2 (by omega)).trans r2
  clear hK1 c0 c1 c2 r0 r1 r2
  cases hr : rightP p
  · have hfin := hid (fun w' => hbad.out w' hr)
    clear hr
    go_wp2_with fail
    refine bodyPost_ret (v := .tuple #[.agg #[.int .i64 0, .int .i64 0, .slice none 0 0], .int .i64 1]) (by simp [results, Tryz.results11, go_sem, y0, y1, y2]) rfl (hfin.out _ ?_)
    exact ((HB1.out.setCell (by simp) _).setCell (by simp) _).setCell (by simp) _
  obtain ⟨hth4, hcn⟩ := hcnt.out hr
  have Hcn := hid hcn
  have Hgood := hid (fun w' v => hgood.out w' v hr)
  clear hr hcn hbad hgood hcnt
  generalize hnv : p.vars.length = nv at *
  generalize hdm : p.dom = dm at *
  generalize hth : p.ths = ths at *
  clear hnv hdm hth
  go_wp2_with fail
  generalize hV : World.alloc w1 _ = V at *
  have hBV : Below w1.heap.size w1 V := by subst hV; exact (Below.refl _ _).alloc (Nat.le_refl _) _
  have zV : V.heap.size = w1.heap.size + 1 := by subst hV; simp
  have hCB : CB V w1.heap.size nv dm (.slice none 0 0) := by subst hV; exact ⟨by simp, by go_simp, by go_simp, by go_simp, by go_simp⟩
  clear hV
  have hKV : Kp w1 V := Kp.of hBV
  have HtV : Hid (∀ W, Kp w1 W → TsIn W (In_ w) ta ths.length ct ths) := fun W hW => (Ht.out.keep fun b o hb => (hW.2 b o (by have : b < w.heap.size := hb; omega)).trans (HB1.out.cell (p := ⟨b, o, none⟩) hb))
  clear Ht hBV
  have hInlt : ∀ b, In_ w b → b < w1.heap.size := fun b hb => by have : b < w.heap.size := hb; omega
  go_loopw [21] (fun i wr => ∃ (k : Nat) (v : Value), k ≤ ths.length ∧ i = .int .i64 k ∧ CB wr w1.heap.size nv dm v ∧ ThsO wr (w1.heap.size + 1) (In_ w) v (cmpT (ths.take k)) ∧ Kp w1 wr) (fun i _ => ths.length - (intOf i).toNat)
  case atStart => exact ⟨0, _, Nat.zero_le _, rfl, hCB, ThsO.nil_, hKV⟩
  case round =>
    clear hCB hKV zV
    obtain ⟨k, v, hk, rfl, hC, hT, hK⟩ := hrel
    by_cases hlt : k < ths.length
    · obtain ⟨b, off, ar, kr, rfl, hb, e0, hrow⟩ := (HtV.out wr hK).at_ k hlt
      have hbl : b < w.heap.size := hb
      have k0 : (0 : Int) ≤ k := by omega
      have k1 : (k : Int) < ths.length := by omega
      have g0 := hK.1.size
      have gc := hC.lt
      have g3 : b < wr.heap.size := by omega
      generalize hV : wr.alloc (.cells #[.slice none 0 0] 60) = V
      have hBV : Below wr.heap.size wr V := by subst hV; exact (Below.refl _ _).alloc (Nat.le_refl _) _
      have zV : wr.heap.size < V.heap.size := by subst hV; simp
      have hWV : WrIs V wr.heap.size (In_ w) wr.heap.size (.slice none 0 0) [] := by
        subst hV
        exact ⟨Nat.le_refl _, by simp, by go_simp, by go_simp, InsO.nil_, by simp [Value.ownBlock], fun b hb => by have h1 := hInlt b hb; omega⟩
      have hcall := hid (pblk_any wr.heap.size (In_ w) ths[k] ar kr wr.heap.size (.slice none 0 0) [] V (by have := Hcn.out k hlt; simp; omega) (hrow.at0 (hBV.mono (by omega)) (fun b hb => hb)) hWV)
      have Hlow := hid (fun (w2 : World) (v2 : Value) (h : Wx wr.heap.size V (.slice none 0 0) w2 v2) => (h.low hWV))
      have HBV := hid hBV
      have hVx := hid hV
      have Hnext := hid (cmpT_take ths k hlt)
      have hTl : (cmpT (ths.take k)).length ≤ 4 := by unfold cmpT; simp; omega
      rw [List.nil_append, List.length_nil] at hcall
      unfold WPost at hcall
      generalize hN : cmpL ths[k] 0 = N at *
      generalize hM : cmpT (ths.take k) = M at *
      generalize ths[k].length = tl at *
      clear hN hM hrow hV hBV hWV
      have HC := hid hC
      have HT := hid hT
      have c2 := hC.c2
      have cf := hC.fr
      have hvo := hid hT.own
      clear hC hT
      have xx2 : wr.cell? ⟨w.heap.size, 2, none⟩ = some (.slice (some ⟨b, off, none⟩) ths.length ct) := (hK.2 _ _ (by omega)).trans x2
      have HK := hid hK
      clear hK
      go_wp2_with fail
      rw [hVx.out]
      refine hcall.out.mono ?_
      rintro e w3 ⟨rfl, v3, hW3, hX3⟩
      obtain ⟨a3, c3, rfl⟩ := hW3.row.sl
      have hB3' : Below wr.heap.size wr w3 := HBV.out.trans (Hlow.out w3 _ hX3)
      have HO3 := hid hW3.row
      have w30 := hW3.c0
      have z3 : wr.heap.size < w3.heap.size := hW3.hi
      have d2 : w3.cell? ⟨w1.heap.size, 2, none⟩ = some v := (HC.out.below hB3').c2
      have HB3 := hid hB3'
      have HG : Hid (∀ W4, (w3.drew.alloc (.cells #[.slice a3 N.length c3] 43)).grownBy W4 v.ownBlock → W4.cell? ⟨wr.heap.size, 0, none⟩ = some (.slice a3 N.length c3)) := fun W4 hg =>
        (World.cell?_of_block (a := ⟨wr.heap.size, 0, none⟩) ((hg.block wr.heap.size (by simp; omega) (fun e => by have := (hvo.out _ e.symm).2; omega)).trans (Below.heap_alloc _ _ _ (by show wr.heap.size < w3.heap.size; exact z3)))).trans w30
      have gc3 : w1.heap.size < w3.heap.size := by omega
      clear hW3 hX3 hB3' hVx hcall Hlow
      go_wp2_with fail
      refine wp_region_held_drew (S := fun W => W.cell? ⟨wr.heap.size, 0, none⟩ = some (.slice a3 N.length c3)) (by kernel_rfl) w30 (fun hHeld => ?_)
      refine takeL (i := 0) (v := ?_) rfl (by kernel_rfl) (by kernel_rfl) (by kernel_rfl) (fun _ _ _ h => h) (Or.inl ⟨by rfl, ?_⟩) (by assumption) ?_
      rotate_left
      focus (intro w hSw; go_simp; try with_reducible rfl)
      simp only [Act.put, List.setIfInBounds_toArray, List.set_cons_zero, List.set_cons_succ]
      refine takeL (i := 2) (v := ?_) rfl (by kernel_rfl) (by kernel_rfl) (by kernel_rfl) (fun _ _ _ h => h) (Or.inl ⟨by rfl, ?_⟩) (by assumption) ?_
      rotate_left
      focus (intro w hSw; go_simp; try with_reducible rfl)
      simp only [Act.put, List.setIfInBounds_toArray, List.set_cons_zero, List.set_cons_succ]
      refine takeL (i := 3) (v := ?_) rfl (by kernel_rfl) (by kernel_rfl) (by kernel_rfl) (fun _ _ _ h => h) (Or.inl ⟨by rfl, ?_⟩) (by assumption) ?_
      rotate_left
      focus (intro w hSw; go_simp; try with_reducible rfl)
      simp only [Act.put, List.setIfInBounds_toArray, List.set_cons_zero, List.set_cons_succ]
      refine takeL (i := 4) (v := ?_) rfl (by kernel_rfl) (by kernel_rfl) (by kernel_rfl) (fun _ _ _ h => h) (Or.inl ⟨by rfl, ?_⟩) (by assumption) ?_
      rotate_left
      focus (intro w hSw; go_simp; try with_reducible rfl)
      simp only [Act.put, List.setIfInBounds_toArray, List.set_cons_zero, List.set_cons_succ]
      refine takeL (i := 5) (v := ?_) rfl (by kernel_rfl) (by kernel_rfl) (by kernel_rfl) (fun _ _ _ h => h) (Or.inl ⟨by rfl, ?_⟩) (by assumption) ?_
      rotate_left
      focus (intro w hSw; go_simp; try with_reducible rfl)
      simp only [Act.put, List.setIfInBounds_toArray, List.set_cons_zero, List.set_cons_succ]
      refine callL2 (i := 1) (j := 6) (by kernel_rfl) rfl rfl (fun K hK => ?_) (fun K hK => ?_)
      · go_simp
        refine hK.out _ _ w30 (fun hHeld => ?_)
        clear hK
        refine callL (i := 6) (by kernel_rfl) rfl (fun K hK => ?_)
        go_simp
        refine hK.out _ _ (by go_simp) (fun hHeld => ?_)
        clear hK
        refine callL (i := 7) (by kernel_rfl) rfl (fun K hK => ?_)
        refine step_thsO (w0 := wr) (B := w1.heap.size + 1) (B' := wr.heap.size) (S := In_ w) (.tmp 31) (.tmp 36) v (.slice a3 N.length c3) M N ?_ ?_ ?_ ?_ ?_ ?_ ?_ ?_ ?_ ?_ ?_ ?_
        · rfl
        · rfl
        · rfl
        · exact HT.out
        · exact (HB3.out.drew).alloc HB3.out.size _
        · exact kept_below HO3.out (((Below.refl _ _).alloc (Nat.le_refl _) _).drew) (fun b hb => by have h1 := hInlt b hb; omega)
        · exact Nat.le_refl _
        · omega
        · exact fun b hb => by have h1 := hInlt b hb; omega
        · exact ⟨_, _, rfl, src_at rfl rfl⟩
        · omega
        intro A4 c4' W4 hO4 hg4 hat4
        have HO4 := hid hO4
        have hB4 : Below (w1.heap.size + 1) wr W4 := (((HB3.out.drew).alloc HB3.out.size _).mono (by omega)).grown hg4 (by have := HB3.out.size; simp; omega) (fun k hk => (hvo.out k hk).1)
        have gb : W4.heap[w1.heap.size]? = wr.heap[w1.heap.size]? := hB4.block _ (by omega)
        have f2 : W4.cell? ⟨w1.heap.size, 2, none⟩ = some v := (World.cell?_of_block (a := ⟨w1.heap.size, 2, none⟩) gb).trans c2
        have ff : W4.frozen? ⟨w1.heap.size, 2, none⟩ = false := (World.frozen?_of_block (a := ⟨w1.heap.size, 2, none⟩) gb).trans cf
        have HC4 := hid (HC.out.keep hB4.size gb)
        have HB4 := hid hB4
        have hw4 : W4.cell? ⟨wr.heap.size, 0, none⟩ = some (.slice a3 N.length c3) := HG.out W4 hg4
        clear hO4 hg4 hat4 hB4
        refine hK.out _ _ hw4 (fun hHeld => ?_)
        clear hK
        simp only [Act.put, List.setIfInBounds_toArray, List.set_cons_zero, List.set_cons_succ]
        refine takeL (i := 8) (v := ?_) rfl (by kernel_rfl) (by kernel_rfl) (by kernel_rfl) (fun _ _ _ h => h) (Or.inl ⟨by rfl, ?_⟩) (by assumption) ?_
        rotate_left
        focus (intro w hSw; go_simp; try with_reducible rfl)
        simp only [Act.put, List.setIfInBounds_toArray, List.set_cons_zero, List.set_cons_succ]
        refine callL (i := 9) (by kernel_rfl) rfl (fun K hK => ?_)
        go_simp
        refine hK.out _ _ (by rw [World.cell?_setCell_other _ _ _ _ (by intro e; injection e; omega)]; exact hw4) (fun hHeld => ?_)
        clear hK
        refine wpAnyH_done (by kernel_rfl) ?_ _
        go_wp2_with fail
        go_roundw
        case rel => exact ⟨k + 1, _, by omega, by simp, HC4.out.put _, by rw [Hnext.out]; exact ThsO.put HO4.out (by omega) (fun b hb => by have h1 := hInlt b hb; have h2 := HB4.out.size; omega) _, Kp.of ((HK.out.1.trans (HB4.out.mono (by omega))).setCell (Nat.le_refl _) _)⟩
        case measure => simp [intOf]; omega
      · go_simp
        refine hK.out _ _ (by go_simp) (fun hHeld => ?_)
        clear hK
        refine callL (i := 1) (by kernel_rfl) rfl (fun K hK => ?_)
        go_simp
        refine hK.out _ _ (by go_simp) (fun hHeld => ?_)
        clear hK
        refine callL (i := 7) (by kernel_rfl) rfl (fun K hK => ?_)
        refine step_thsO (w0 := wr) (B := w1.heap.size + 1) (B' := wr.heap.size) (S := In_ w) (.tmp 31) (.tmp 36) v (.slice a3 N.length c3) M N ?_ ?_ ?_ ?_ ?_ ?_ ?_ ?_ ?_ ?_ ?_ ?_
        · rfl
        · rfl
        · rfl
        · exact HT.out
        · exact (HB3.out.drew).alloc HB3.out.size _
        · exact kept_below HO3.out (((Below.refl _ _).alloc (Nat.le_refl _) _).drew) (fun b hb => by have h1 := hInlt b hb; omega)
        · exact Nat.le_refl _
        · omega
        · exact fun b hb => by have h1 := hInlt b hb; omega
        · exact ⟨_, _, rfl, src_at rfl rfl⟩
        · omega
        intro A4 c4' W4 hO4 hg4 hat4
        have HO4 := hid hO4
        have hB4 : Below (w1.heap.size + 1) wr W4 := (((HB3.out.drew).alloc HB3.out.size _).mono (by omega)).grown hg4 (by have := HB3.out.size; simp; omega) (fun k hk => (hvo.out k hk).1)
        have gb : W4.heap[w1.heap.size]? = wr.heap[w1.heap.size]? := hB4.block _ (by omega)
        have f2 : W4.cell? ⟨w1.heap.size, 2, none⟩ = some v := (World.cell?_of_block (a := ⟨w1.heap.size, 2, none⟩) gb).trans c2
        have ff : W4.frozen? ⟨w1.heap.size, 2, none⟩ = false := (World.frozen?_of_block (a := ⟨w1.heap.size, 2, none⟩) gb).trans cf
        have HC4 := hid (HC.out.keep hB4.size gb)
        have HB4 := hid hB4
        have hw4 : W4.cell? ⟨wr.heap.size, 0, none⟩ = some (.slice a3 N.length c3) := HG.out W4 hg4
        clear hO4 hg4 hat4 hB4
        refine hK.out _ _ hw4 (fun hHeld => ?_)
        clear hK
        simp only [Act.put, List.setIfInBounds_toArray, List.set_cons_zero, List.set_cons_succ]
        refine takeL (i := 8) (v := ?_) rfl (by kernel_rfl) (by kernel_rfl) (by kernel_rfl) (fun _ _ _ h => h) (Or.inl ⟨by rfl, ?_⟩) (by assumption) ?_
        rotate_left
        focus (intro w hSw; go_simp; try with_reducible rfl)
        simp only [Act.put, List.setIfInBounds_toArray, List.set_cons_zero, List.set_cons_succ]
        refine callL (i := 9) (by kernel_rfl) rfl (fun K hK => ?_)
        go_simp
        refine hK.out _ _ (by rw [World.cell?_setCell_other _ _ _ _ (by intro e; injection e; omega)]; exact hw4) (fun hHeld => ?_)
        clear hK
        refine wpAnyH_done (by kernel_rfl) ?_ _
        go_wp2_with fail
        go_roundw
        case rel => exact ⟨k + 1, _, by omega, by simp, HC4.out.put _, by rw [Hnext.out]; exact ThsO.put HO4.out (by omega) (fun b hb => by have h1 := hInlt b hb; have h2 := HB4.out.size; omega) _, Kp.of ((HK.out.1.trans (HB4.out.mono (by omega))).setCell (Nat.le_refl _) _)⟩
        case measure => simp [intOf]; omega
    · obtain rfl : k = ths.length := by omega
      rw [List.take_length] at hT
      have d0 := hC.c0
      have d1 := hC.c1
      have d2 := hC.c2
      have dz := hC.lt
      have xx2 := (hK.2 (w.heap.size) 2 (by omega)).trans x2
      have q0 := (hK.2 (w.heap.size + 1) 0 (by omega)).trans y0
      have q1 := (hK.2 (w.heap.size + 1) 1 (by omega)).trans y1
      have q2 := (hK.2 (w.heap.size + 1) 2 (by omega)).trans y2
      have qf : ∀ o, wr.frozen? ⟨w.heap.size + 1, o, none⟩ = false := fun o => (World.frozen?_of_block (a := ⟨w.heap.size + 1, o, none⟩) (hK.1.block (w.heap.size + 1) (by omega))).trans (hf1 o)
      have HT := hid hT
      have HK := hid hK
      obtain ⟨av, cv', rfl⟩ := hT.sl
      generalize hT2 : cmpT ths = M at *
      clear hT hC hK hT2 hf1
      have z5 : w.heap.size + 1 < wr.heap.size := by omega
      go_wp2_with fail
      refine bodyPost_ret (v := .tuple #[.agg #[.int .i64 nv, .int .i64 dm, .slice av M.length cv'], .int .i64 0]) (by simp [results, Tryz.results11, go_sem, q0, q1, q2]) rfl (Hgood.out _ _ ?_ ?_)
      · exact (ThsO.put (ThsO.put (ThsO.put HT.out (by omega) (fun b hb => by have h1 := hInlt b hb; have : b < w.heap.size := hb; omega) _) (by omega) (fun b hb => by have h1 := hInlt b hb; have : b < w.heap.size := hb; simp; omega) _) (by omega) (fun b hb => by have h1 := hInlt b hb; have : b < w.heap.size := hb; simp; omega) _).down (by omega)
      · exact (((HB1.out.trans (HK.out.1.mono (by omega))).setCell (by simp) _).setCell (by simp) _).setCell (by simp) _
end Go.Proofs.YtcgpobeidlimkaaGreatDoor
