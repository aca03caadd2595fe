/- Programs as code: the document's word. -/
import Derived.Test.YtekmcoflagajkaaGreatDoorBunC
import Derived.Test.YtekmcoflagajkaaGreatDoorBunW
import Derived.Test.YtekmcoflagajkaaGreatDoorBunM
import Derived.Deep.CutRange
import Derived.Test.YtekmcoflagajkaaGreatDoorBunX
namespace Go.Proofs.YtekmcoflagajkaaGreatDoor
open Go.RowKit

def cmpT (t : List (List St)) : List (List Ins) := t.map fun l => cmpL l 0
theorem cmpT_take (t : List (List St)) (i : Nat) (hi : i < t.length) : cmpT (t.take (i + 1)) = cmpT (t.take i) ++ [cmpL t[i] 0] := by
  unfold cmpT
  rw [List.take_succ_eq_append_getElem hi, List.map_append]
  rfl
theorem rightP_cnt {p : Pg} (h : rightP p = true) : p.ths.length ≤ 4 ∧ ∀ i (hi : i < p.ths.length), cntL p.ths[i] ≤ 200 := by
  rw [rightP_eq] at h
  simp only [Bool.and_eq_true, decide_eq_true_eq] at h
  refine ⟨h.2.1.2, fun i hi => ?_⟩
  have h2 := h.2.2
  unfold sumT at h2
  simp only [Bool.and_eq_true, decide_eq_true_eq] at h2
  have h3 := cntT_take p.ths i hi
  have h4 := cntT_le p.ths (i + 1)
  omega
/-- What Compile leaves. -/
def CmpPost (p : Pg) (w : World) (e : Ending) (w' : World) : Prop :=
  ∃ v, e = .returned (.tuple #[.agg #[.int .i64 (if rightP p then (p.vars.length : Int) else 0), .int .i64 (if rightP p then p.dom else 0), v], .int .i64 (if rightP p then 0 else 1)]) ∧ ThsO w' w.heap.size (In_ w) v (if rightP p then cmpT p.ths else []) ∧ Below w.heap.size w w'
theorem CmpPost.bad {p : Pg} {w w' : World} (h : rightP p = false) (hb : Below w.heap.size w w') : CmpPost p w (.returned (.tuple #[.agg #[.int .i64 0, .int .i64 0, .slice none 0 0], .int .i64 1])) w' :=
  ⟨.slice none 0 0, by rw [h]; rfl, by rw [h]; exact ThsO.nil_, hb⟩
theorem CmpPost.good {p : Pg} {w w' : World} {v : Value} (h : rightP p = true) (ht : ThsO w' w.heap.size (In_ w) v (cmpT p.ths)) (hb : Below w.heap.size w w') : CmpPost p w (.returned (.tuple #[.agg #[.int .i64 p.vars.length, .int .i64 p.dom, v], .int .i64 0])) w' :=
  ⟨v, by rw [h]; rfl, by rw [h]; exact ht, hb⟩

theorem below_put {B : Nat} {w w' : World} (h : Below (B + 1) w w') {o : Nat} (v : Value) : Below B w (w'.setCell ⟨B, o, none⟩ v) := (h.mono (Nat.le_succ _)).setCell (Nat.le_refl _) v
/-- Code that is being made lies in block cb. -/
structure CB (w : World) (cb : Nat) (vars dom : Int) (v : Value) : Prop where
  lt : cb < w.heap.size
  c0 : w.cell? ⟨cb, 0, none⟩ = some (.int .i64 vars)
  c1 : w.cell? ⟨cb, 1, none⟩ = some (.int .i64 dom)
  c2 : w.cell? ⟨cb, 2, none⟩ = some v
  fr : w.frozen? ⟨cb, 2, none⟩ = false
theorem CB.keep {w w' : World} {cb : Nat} {vars dom : Int} {v : Value} (h : CB w cb vars dom v) (hs : w.heap.size ≤ w'.heap.size) (hb : w'.heap[cb]? = w.heap[cb]?) : CB w' cb vars dom v :=
  ⟨Nat.lt_of_lt_of_le h.lt hs, (World.cell?_of_block (a := ⟨cb, 0, none⟩) hb).trans h.c0, (World.cell?_of_block (a := ⟨cb, 1, none⟩) hb).trans h.c1, (World.cell?_of_block (a := ⟨cb, 2, none⟩) hb).trans h.c2, (World.frozen?_of_block (a := ⟨cb, 2, none⟩) hb).trans h.fr⟩
theorem CB.below {w w' : World} {cb : Nat} {vars dom : Int} {v : Value} (h : CB w cb vars dom v) (hb : Below w.heap.size w w') : CB w' cb vars dom v := h.keep hb.size (hb.block _ h.lt)
theorem CB.put {w : World} {cb : Nat} {vars dom : Int} {v : Value} (h : CB w cb vars dom v) (u : Value) : CB (w.setCell ⟨cb, 2, none⟩ u) cb vars dom u := by
  obtain ⟨lt, c0, c1, c2, fr⟩ := h
  exact ⟨by simpa using lt, by go_simp, by go_simp, by go_simp, by go_simp⟩
theorem ThsO.down {w : World} {B B' : Nat} {S : Nat → Prop} {v : Value} {T : List (List Ins)} (h : ThsO w B S v T) (hB : B' ≤ B) : ThsO w B' S v T := by
  obtain ⟨LL, h0, h1, h2, h3, h4⟩ := h
  exact ⟨LL, h0, own_down h1 hB, fun y hy => (h2 y hy).down hB, h3, h4⟩
theorem ThsO.put {w : World} {B cb o : Nat} {S : Nat → Prop} {v : Value} {T : List (List Ins)} (h : ThsO w B S v T) (hc : cb < B) (hS : ∀ b, S b → b < w.heap.size ∧ b ≠ cb) (u : Value) : ThsO (w.setCell ⟨cb, o, none⟩ u) B S v T :=
  h.kept (r := some cb) ⟨rfl, rfl, rfl, by simp, fun k _ hk => Below.heap_setCell _ _ _ _ (by intro e; exact hk (by rw [e]))⟩ (fun k e => by cases e; exact hc) fun b hb => ⟨(hS b hb).1, by have := (hS b hb).2; simpa using this⟩

set_option maxRecDepth 100000 in
set_option maxHeartbeats 8000000 in
theorem rCompile_any (p : Pg) (cs : List Value) (w : World) (hin : PgIn w (In_ w) cs p) : Calls Tryz.prog 16 #[.agg cs.toArray] w (CmpPost p w) := by
  have hin0 := hin
  obtain ⟨va, cv, ta, ct, rfl, hv, ht, hwf⟩ := hin
  have hcnt := hid (rightP_cnt (p := p))
  have hbad := hid (fun w' => CmpPost.bad (p := p) (w := w) (w' := w'))
  have hgood := hid (fun w' v => CmpPost.good (p := p) (w := w) (w' := w') (v := v))
  have hvc := hv.le
  have hvm := hv.mx
  have htc := ht.le
  have htm := ht.mx
  unfold maxLen at hvm htm
  generalize hW : (w.alloc (.cells #[.slice va p.vars.length cv, .int .i64 p.dom, .slice ta p.ths.length ct] 52)).alloc (.cells #[.int .i64 0, .int .i64 0, .slice none 0 0] 25) = W0
  have hB : Below w.heap.size w W0 := by subst hW; exact ((Below.refl _ _).alloc (Nat.le_refl _) _).alloc (by simp) _
  have zz : W0.heap.size = w.heap.size + 2 := by subst hW; simp
  have c0 : W0.cell? ⟨w.heap.size, 0, none⟩ = some (.slice va p.vars.length cv) := by subst hW; go_simp
  have c1 : W0.cell? ⟨w.heap.size, 1, none⟩ = some (.int .i64 p.dom) := by subst hW; go_simp
  have c2 : W0.cell? ⟨w.heap.size, 2, none⟩ = some (.slice ta p.ths.length ct) := by subst hW; go_simp
  have r0 : W0.cell? ⟨w.heap.size + 1, 0, none⟩ = some (.int .i64 0) := by subst hW; go_simp
  have r1 : W0.cell? ⟨w.heap.size + 1, 1, none⟩ = some (.int .i64 0) := by subst hW; go_simp
  have r2 : W0.cell? ⟨w.heap.size + 1, 2, none⟩ = some (.slice none 0 0) := by subst hW; go_simp
  have rf : ∀ o, W0.frozen? ⟨w.heap.size + 1, o, none⟩ = false := by subst hW; intro o; go_simp
  have hR := hid (rRight_any p _ W0 ((Kp.of hB).pg hin0))
  have HB := hid hB
  have hWx := hid hW
  have Ht := hid ht
  clear hW hin0 hv ht hB
  go_enter Tryz.func16, Tryz.ntmps16
  go_wp2_with fail
  rw [hWx.out]
  refine hR.out.mono ?_
  rintro e w1 ⟨rfl, hb1⟩
  have hK1 : Kp W0 w1 := Kp.of hb1
  have z1 : w.heap.size + 2 ≤ w1.heap.size := by have := hb1.size; omega
  have hf1 : ∀ o, w1.frozen? ⟨w.heap.size + 1, o, none⟩ = false := fun o => (World.frozen?_of_block (a := ⟨w.heap.size + 1, o, none⟩) (hb1.block (w.heap.size + 1) (by omega))).trans (rf o)
  have HK1 := hid hK1
  have HB1 := hid (Kp.fin HB.out hK1)
  clear hb1 rf
  have x0 := (hK1.2 (w.heap.size) 0 (by omega)).trans c0
  have x1 := (hK1.2 (w.heap.size) 1 (by omega)).trans c1
  have x2 := (hK1.2 (w.heap.size) 2 (by omega)).trans c2
  have y0 := (hK1.2 (w.heap.size + 1) 0 (by omega)).trans r0
  have y1 := (hK1.2 (w.heap.size + 1) 1 (by omega)).trans r1
  have y2 := (hK1.2 (w.heap.size + 1) 2 (by omega)).trans r2
  clear hK1 c0 c1 c2 r0 r1 r2
  cases hr : rightP p
  · have hfin := hid (fun w' => hbad.out w' hr)
    clear hr
    go_wp2_with fail
    refine bodyPost_ret (v := .tuple #[.agg #[.int .i64 0, .int .i64 0, .slice none 0 0], .int .i64 1]) (by simp [results, Tryz.results16, go_sem, y0, y1, y2]) rfl (hfin.out _ ?_)
    exact ((HB1.out.setCell (by simp) _).setCell (by simp) _).setCell (by simp) _
  obtain ⟨hth4, hcn⟩ := hcnt.out hr
  have Hcn := hid hcn
  have Hgood := hid (fun w' v => hgood.out w' v hr)
  clear hr hcn hbad hgood hcnt
  generalize hnv : p.vars.length = nv at *
  generalize hdm : p.dom = dm at *
  generalize hth : p.ths = ths at *
  clear hnv hdm hth
  go_wp2_with fail
  generalize hV : World.alloc w1 _ = V at *
  have hBV : Below w1.heap.size w1 V := by subst hV; exact (Below.refl _ _).alloc (Nat.le_refl _) _
  have zV : V.heap.size = w1.heap.size + 1 := by subst hV; simp
  have hCB : CB V w1.heap.size nv dm (.slice none 0 0) := by subst hV; exact ⟨by simp, by go_simp, by go_simp, by go_simp, by go_simp⟩
  clear hV
  have hKV : Kp w1 V := Kp.of hBV
  have HtV : Hid (∀ W, Kp w1 W → TsIn W (In_ w) ta ths.length ct ths) := fun W hW => (Ht.out.keep fun b o hb => (hW.2 b o (by have : b < w.heap.size := hb; omega)).trans (HB1.out.cell (p := ⟨b, o, none⟩) hb))
  clear Ht hBV
  have hInlt : ∀ b, In_ w b → b < w1.heap.size := fun b hb => by have : b < w.heap.size := hb; omega
  go_loopw [5] (fun i wr => ∃ (k : Nat) (v : Value), k ≤ ths.length ∧ i = .int .i64 k ∧ CB wr w1.heap.size nv dm v ∧ ThsO wr (w1.heap.size + 1) (In_ w) v (cmpT (ths.take k)) ∧ Kp w1 wr) (fun i _ => ths.length - (intOf i).toNat)
  case atStart => exact ⟨0, _, Nat.zero_le _, rfl, hCB, ThsO.nil_, hKV⟩
  case round =>
    clear hCB hKV zV
    obtain ⟨k, v, hk, rfl, hC, hT, hK⟩ := hrel
    by_cases hlt : k < ths.length
    · obtain ⟨b, off, ar, kr, rfl, hb, e0, hrow⟩ := (HtV.out wr hK).at_ k hlt
      have hbl : b < w.heap.size := hb
      have k0 : (0 : Int) ≤ k := by omega
      have k1 : (k : Int) < ths.length := by omega
      have g0 := hK.1.size
      have gc := hC.lt
      have g3 : b < wr.heap.size := by omega
      have hcall : Hid (∀ W, Below wr.heap.size wr W → Calls Tryz.prog 32 #[.slice ar ths[k].length kr, .int .i64 0] W (RPost (In_ w) (cmpL ths[k] 0) W)) := fun W hW =>
        rblock_any w.heap.size (In_ w) (fun b hb => hb) ths[k] ar kr 0 W (by have := Hcn.out k hlt; omega) (by have := hW.size; omega) (hrow.at0 (hW.mono (by omega)) (fun b hb => hb))
      have Hnext := hid (cmpT_take ths k hlt)
      have hTl : (cmpT (ths.take k)).length ≤ 4 := by unfold cmpT; simp; omega
      unfold RPost at hcall
      generalize hN : cmpL ths[k] 0 = N at *
      generalize hM : cmpT (ths.take k) = M at *
      generalize ths[k].length = tl at *
      clear hN hM hrow
      have HC := hid hC
      have HT := hid hT
      have c2 := hC.c2
      have cf := hC.fr
      have hvo := hid hT.own
      clear hC hT
      have xx2 : wr.cell? ⟨w.heap.size, 2, none⟩ = some (.slice (some ⟨b, off, none⟩) ths.length ct) := (hK.2 _ _ (by omega)).trans x2
      have HK := hid hK
      clear hK
      go_wp2_with fail
      have HS : Hid (∀ W, Below wr.heap.size wr W → W.cell? ⟨w.heap.size, 2, none⟩ = some (.slice (some ⟨b, off, none⟩) ths.length ct) ∧ ∀ j, W.cell? ⟨b, j, none⟩ = wr.cell? ⟨b, j, none⟩) := fun W h => ⟨(h.cell (p := ⟨w.heap.size, 2, none⟩) (by show w.heap.size < wr.heap.size; omega)).trans xx2, fun j => h.cell (p := ⟨b, j, none⟩) g3⟩
      have HS2 : Hid (∀ W, Below w1.heap.size wr W → W.cell? ⟨w.heap.size, 2, none⟩ = some (.slice (some ⟨b, off, none⟩) ths.length ct) ∧ ∀ j, W.cell? ⟨b, j, none⟩ = wr.cell? ⟨b, j, none⟩) := fun W h => ⟨(h.cell (p := ⟨w.heap.size, 2, none⟩) (by show w.heap.size < w1.heap.size; omega)).trans xx2, fun j => h.cell (p := ⟨b, j, none⟩) (by show b < w1.heap.size; omega)⟩
      refine wp_region_held_drew (S := fun W => W.cell? ⟨w.heap.size, 2, none⟩ = some (.slice (some ⟨b, off, none⟩) ths.length ct) ∧ ∀ j, W.cell? ⟨b, j, none⟩ = wr.cell? ⟨b, j, none⟩) (by kernel_rfl) (HS.out _ (Below.refl _ _).drew) (fun hHeld => ?_)
      refine takeL (i := 0) (v := ?_) rfl (by kernel_rfl) (by kernel_rfl) (by kernel_rfl) (fun _ _ _ h => h) (Or.inl ⟨by rfl, ?_⟩) (by assumption) ?_
      rotate_left
      focus (intro w hSw; go_simp; try with_reducible rfl)
      simp only [Act.put, List.setIfInBounds_toArray, List.set_cons_zero, List.set_cons_succ]
      refine takeL (i := 2) (v := ?_) rfl (by kernel_rfl) (by kernel_rfl) (by kernel_rfl) (fun _ _ _ h => h) (Or.inl ⟨by rfl, ?_⟩) (by assumption) ?_
      rotate_left
      focus (intro w hSw; go_simp; try with_reducible rfl)
      simp only [Act.put, List.setIfInBounds_toArray, List.set_cons_zero, List.set_cons_succ]
      refine takeL (i := 3) (v := ?_) rfl (by kernel_rfl) (by kernel_rfl) (by kernel_rfl) (fun _ _ _ h => h) (Or.inl ⟨by rfl, ?_⟩) (by assumption) ?_
      rotate_left
      focus (intro w hSw; go_simp; try with_reducible rfl)
      simp only [Act.put, List.setIfInBounds_toArray, List.set_cons_zero, List.set_cons_succ]
      refine takeL (i := 4) (v := ?_) rfl (by kernel_rfl) (by kernel_rfl) (by kernel_rfl) (fun _ _ _ h => h) (Or.inl ⟨by rfl, ?_⟩) (by assumption) ?_
      rotate_left
      focus (intro w hSw; go_simp; try with_reducible rfl)
      simp only [Act.put, List.setIfInBounds_toArray, List.set_cons_zero, List.set_cons_succ]
      refine takeL (i := 5) (v := ?_) rfl (by kernel_rfl) (by kernel_rfl) (by kernel_rfl) (fun _ _ _ h => h) (Or.inl ⟨by rfl, ?_⟩) (by assumption) ?_
      rotate_left
      focus (intro w hSw; go_simp; try with_reducible rfl)
      simp only [Act.put, List.setIfInBounds_toArray, List.set_cons_zero, List.set_cons_succ]
      refine takeL (i := 6) (v := ?_) rfl (by kernel_rfl) (by kernel_rfl) (by kernel_rfl) (fun _ _ _ h => h) (Or.inl ⟨by rfl, ?_⟩) (by assumption) ?_
      rotate_left
      focus (intro w hSw; go_simp; try with_reducible rfl)
      simp only [Act.put, List.setIfInBounds_toArray, List.set_cons_zero, List.set_cons_succ]
      refine callL2 (i := 1) (j := 7) (by kernel_rfl) rfl rfl (fun K hK => ?_) (fun K hK => ?_)
      · go_simp
        refine hK.out _ _ (HS.out _ (Below.refl _ _).drew) (fun hHeld => ?_)
        clear hK
        refine callL (i := 7) (by kernel_rfl) rfl (fun K hK => ?_)
        go_simp
        go_at_call 32
        with_reducible refine (hcall.out _ (Below.refl _ _).drew).mono ?_
        rintro e w3 ⟨a3, c3, rfl, hO3, hB3⟩
        have hB3' : Below wr.heap.size wr w3 := (Below.refl wr.heap.size wr).drew.trans hB3
        have HO3 := hid hO3
        have d2 : w3.cell? ⟨w1.heap.size, 2, none⟩ = some v := (HC.out.below hB3').c2
        have df : w3.frozen? ⟨w1.heap.size, 2, none⟩ = false := (HC.out.below hB3').fr
        have z3 : w1.heap.size < w3.heap.size := by have := hB3'.size; omega
        have HB3 := hid hB3'
        clear hO3 hB3 hB3'
        refine hK.out _ _ (HS.out _ HB3.out) (fun hHeld => ?_)
        clear hK
        refine callL (i := 8) (by kernel_rfl) rfl (fun K hK => ?_)
        go_simp
        refine hK.out _ _ (HS.out _ (HB3.out.alloc HB3.out.size _)) (fun hHeld => ?_)
        clear hK
        refine callL (i := 9) (by kernel_rfl) rfl (fun K hK => ?_)
        refine step_thsO (w0 := wr) (B := w1.heap.size + 1) (B' := wr.heap.size) (S := In_ w) (.tmp 24) (.tmp 31) v (.slice a3 N.length c3) M N ?_ ?_ ?_ ?_ ?_ ?_ ?_ ?_ ?_ ?_ ?_ ?_
        · rfl
        · rfl
        · rfl
        · exact HT.out
        · exact HB3.out.alloc HB3.out.size _
        · exact kept_alloc HO3.out (fun b hb => by have h1 := hInlt b hb; omega) _
        · exact Nat.le_refl _
        · omega
        · exact fun b hb => by have h1 := hInlt b hb; omega
        · exact ⟨_, _, rfl, src_new rfl⟩
        · omega
        intro A4 c4' W4 hO4 hg4 hat4
        have HO4 := hid hO4
        have hB4 : Below (w1.heap.size + 1) wr W4 := ((HB3.out.alloc HB3.out.size _).mono (by omega)).grown hg4 (by have := HB3.out.size; simp; omega) (fun k hk => (hvo.out k hk).1)
        have gb : W4.heap[w1.heap.size]? = wr.heap[w1.heap.size]? := hB4.block _ (by omega)
        have f2 : W4.cell? ⟨w1.heap.size, 2, none⟩ = some v := (World.cell?_of_block (a := ⟨w1.heap.size, 2, none⟩) gb).trans c2
        have ff : W4.frozen? ⟨w1.heap.size, 2, none⟩ = false := (World.frozen?_of_block (a := ⟨w1.heap.size, 2, none⟩) gb).trans cf
        have HC4 := hid (HC.out.keep hB4.size gb)
        have HB4 := hid hB4
        clear hO4 hg4 hat4 hB4
        refine hK.out _ _ (HS2.out _ (HB4.out.mono (by omega))) (fun hHeld => ?_)
        clear hK
        simp only [Act.put, List.setIfInBounds_toArray, List.set_cons_zero, List.set_cons_succ]
        refine takeL (i := 10) (v := ?_) rfl (by kernel_rfl) (by kernel_rfl) (by kernel_rfl) (fun _ _ _ h => h) (Or.inl ⟨by rfl, ?_⟩) (by assumption) ?_
        rotate_left
        focus (intro w hSw; go_simp; try with_reducible rfl)
        simp only [Act.put, List.setIfInBounds_toArray, List.set_cons_zero, List.set_cons_succ]
        refine callL (i := 11) (by kernel_rfl) rfl (fun K hK => ?_)
        go_simp
        have hS5 := HS2.out _ (below_put HB4.out (o := 2) (.slice A4 (M.length + 1) c4'))
        refine hK.out _ _ hS5 (fun hHeld => ?_)
        clear hK
        refine wpAnyH_done (by kernel_rfl) ?_ _
        go_wp2_with fail
        go_roundw
        case rel => exact ⟨k + 1, _, by omega, by simp, HC4.out.put _, by rw [Hnext.out]; exact ThsO.put HO4.out (by omega) (fun b hb => by have h1 := hInlt b hb; have h2 := HB4.out.size; omega) _, Kp.of ((HK.out.1.trans (HB4.out.mono (by omega))).setCell (Nat.le_refl _) _)⟩
        case measure => simp [intOf]; omega
      · go_simp
        go_at_call 32
        with_reducible refine (hcall.out _ (Below.refl _ _).drew).mono ?_
        rintro e w3 ⟨a3, c3, rfl, hO3, hB3⟩
        have hB3' : Below wr.heap.size wr w3 := (Below.refl wr.heap.size wr).drew.trans hB3
        have HO3 := hid hO3
        have d2 : w3.cell? ⟨w1.heap.size, 2, none⟩ = some v := (HC.out.below hB3').c2
        have df : w3.frozen? ⟨w1.heap.size, 2, none⟩ = false := (HC.out.below hB3').fr
        have z3 : w1.heap.size < w3.heap.size := by have := hB3'.size; omega
        have HB3 := hid hB3'
        clear hO3 hB3 hB3'
        refine hK.out _ _ (HS.out _ HB3.out) (fun hHeld => ?_)
        clear hK
        refine callL2 (i := 1) (j := 8) (by kernel_rfl) rfl rfl (fun K hK => ?_) (fun K hK => ?_)
        · go_simp
          refine hK.out _ _ (HS.out _ HB3.out) (fun hHeld => ?_)
          clear hK
          refine callL (i := 8) (by kernel_rfl) rfl (fun K hK => ?_)
          go_simp
          refine hK.out _ _ (HS.out _ (HB3.out.alloc HB3.out.size _)) (fun hHeld => ?_)
          clear hK
          refine callL (i := 9) (by kernel_rfl) rfl (fun K hK => ?_)
          refine step_thsO (w0 := wr) (B := w1.heap.size + 1) (B' := wr.heap.size) (S := In_ w) (.tmp 24) (.tmp 31) v (.slice a3 N.length c3) M N ?_ ?_ ?_ ?_ ?_ ?_ ?_ ?_ ?_ ?_ ?_ ?_
          · rfl
          · rfl
          · rfl
          · exact HT.out
          · exact HB3.out.alloc HB3.out.size _
          · exact kept_alloc HO3.out (fun b hb => by have h1 := hInlt b hb; omega) _
          · exact Nat.le_refl _
          · omega
          · exact fun b hb => by have h1 := hInlt b hb; omega
          · exact ⟨_, _, rfl, src_new rfl⟩
          · omega
          intro A4 c4' W4 hO4 hg4 hat4
          have HO4 := hid hO4
          have hB4 : Below (w1.heap.size + 1) wr W4 := ((HB3.out.alloc HB3.out.size _).mono (by omega)).grown hg4 (by have := HB3.out.size; simp; omega) (fun k hk => (hvo.out k hk).1)
          have gb : W4.heap[w1.heap.size]? = wr.heap[w1.heap.size]? := hB4.block _ (by omega)
          have f2 : W4.cell? ⟨w1.heap.size, 2, none⟩ = some v := (World.cell?_of_block (a := ⟨w1.heap.size, 2, none⟩) gb).trans c2
          have ff : W4.frozen? ⟨w1.heap.size, 2, none⟩ = false := (World.frozen?_of_block (a := ⟨w1.heap.size, 2, none⟩) gb).trans cf
          have HC4 := hid (HC.out.keep hB4.size gb)
          have HB4 := hid hB4
          clear hO4 hg4 hat4 hB4
          refine hK.out _ _ (HS2.out _ (HB4.out.mono (by omega))) (fun hHeld => ?_)
          clear hK
          simp only [Act.put, List.setIfInBounds_toArray, List.set_cons_zero, List.set_cons_succ]
          refine takeL (i := 10) (v := ?_) rfl (by kernel_rfl) (by kernel_rfl) (by kernel_rfl) (fun _ _ _ h => h) (Or.inl ⟨by rfl, ?_⟩) (by assumption) ?_
          rotate_left
          focus (intro w hSw; go_simp; try with_reducible rfl)
          simp only [Act.put, List.setIfInBounds_toArray, List.set_cons_zero, List.set_cons_succ]
          refine callL (i := 11) (by kernel_rfl) rfl (fun K hK => ?_)
          go_simp
          have hS5 := HS2.out _ (below_put HB4.out (o := 2) (.slice A4 (M.length + 1) c4'))
          refine hK.out _ _ hS5 (fun hHeld => ?_)
          clear hK
          refine wpAnyH_done (by kernel_rfl) ?_ _
          go_wp2_with fail
          go_roundw
          case rel => exact ⟨k + 1, _, by omega, by simp, HC4.out.put _, by rw [Hnext.out]; exact ThsO.put HO4.out (by omega) (fun b hb => by have h1 := hInlt b hb; have h2 := HB4.out.size; omega) _, Kp.of ((HK.out.1.trans (HB4.out.mono (by omega))).setCell (Nat.le_refl _) _)⟩
          case measure => simp [intOf]; omega
        · go_simp
          refine hK.out _ _ (HS.out _ (HB3.out.alloc HB3.out.size _)) (fun hHeld => ?_)
          clear hK
          refine callL (i := 1) (by kernel_rfl) rfl (fun K hK => ?_)
          go_simp
          refine hK.out _ _ (HS.out _ (HB3.out.alloc HB3.out.size _)) (fun hHeld => ?_)
          clear hK
          refine callL (i := 9) (by kernel_rfl) rfl (fun K hK => ?_)
          refine step_thsO (w0 := wr) (B := w1.heap.size + 1) (B' := wr.heap.size) (S := In_ w) (.tmp 24) (.tmp 31) v (.slice a3 N.length c3) M N ?_ ?_ ?_ ?_ ?_ ?_ ?_ ?_ ?_ ?_ ?_ ?_
          · rfl
          · rfl
          · rfl
          · exact HT.out
          · exact HB3.out.alloc HB3.out.size _
          · exact kept_alloc HO3.out (fun b hb => by have h1 := hInlt b hb; omega) _
          · exact Nat.le_refl _
          · omega
          · exact fun b hb => by have h1 := hInlt b hb; omega
          · exact ⟨_, _, rfl, src_new rfl⟩
          · omega
          intro A4 c4' W4 hO4 hg4 hat4
          have HO4 := hid hO4
          have hB4 : Below (w1.heap.size + 1) wr W4 := ((HB3.out.alloc HB3.out.size _).mono (by omega)).grown hg4 (by have := HB3.out.size; simp; omega) (fun k hk => (hvo.out k hk).1)
          have gb : W4.heap[w1.heap.size]? = wr.heap[w1.heap.size]? := hB4.block _ (by omega)
          have f2 : W4.cell? ⟨w1.heap.size, 2, none⟩ = some v := (World.cell?_of_block (a := ⟨w1.heap.size, 2, none⟩) gb).trans c2
          have ff : W4.frozen? ⟨w1.heap.size, 2, none⟩ = false := (World.frozen?_of_block (a := ⟨w1.heap.size, 2, none⟩) gb).trans cf
          have HC4 := hid (HC.out.keep hB4.size gb)
          have HB4 := hid hB4
          clear hO4 hg4 hat4 hB4
          refine hK.out _ _ (HS2.out _ (HB4.out.mono (by omega))) (fun hHeld => ?_)
          clear hK
          simp only [Act.put, List.setIfInBounds_toArray, List.set_cons_zero, List.set_cons_succ]
          refine takeL (i := 10) (v := ?_) rfl (by kernel_rfl) (by kernel_rfl) (by kernel_rfl) (fun _ _ _ h => h) (Or.inl ⟨by rfl, ?_⟩) (by assumption) ?_
          rotate_left
          focus (intro w hSw; go_simp; try with_reducible rfl)
          simp only [Act.put, List.setIfInBounds_toArray, List.set_cons_zero, List.set_cons_succ]
          refine callL (i := 11) (by kernel_rfl) rfl (fun K hK => ?_)
          go_simp
          have hS5 := HS2.out _ (below_put HB4.out (o := 2) (.slice A4 (M.length + 1) c4'))
          refine hK.out _ _ hS5 (fun hHeld => ?_)
          clear hK
          refine wpAnyH_done (by kernel_rfl) ?_ _
          go_wp2_with fail
          go_roundw
          case rel => exact ⟨k + 1, _, by omega, by simp, HC4.out.put _, by rw [Hnext.out]; exact ThsO.put HO4.out (by omega) (fun b hb => by have h1 := hInlt b hb; have h2 := HB4.out.size; omega) _, Kp.of ((HK.out.1.trans (HB4.out.mono (by omega))).setCell (Nat.le_refl _) _)⟩
          case measure => simp [intOf]; omega
    · obtain rfl : k = ths.length := by omega
      rw [List.take_length] at hT
      have d0 := hC.c0
      have d1 := hC.c1
      have d2 := hC.c2
      have dz := hC.lt
      have xx2 := (hK.2 (w.heap.size) 2 (by omega)).trans x2
      have q0 := (hK.2 (w.heap.size + 1) 0 (by omega)).trans y0
      have q1 := (hK.2 (w.heap.size + 1) 1 (by omega)).trans y1
      have q2 := (hK.2 (w.heap.size + 1) 2 (by omega)).trans y2
      have qf : ∀ o, wr.frozen? ⟨w.heap.size + 1, o, none⟩ = false := fun o => (World.frozen?_of_block (a := ⟨w.heap.size + 1, o, none⟩) (hK.1.block (w.heap.size + 1) (by omega))).trans (hf1 o)
      have HT := hid hT
      have HK := hid hK
      obtain ⟨av, cv', rfl⟩ := hT.sl
      generalize hT2 : cmpT ths = M at *
      clear hT hC hK hT2 hf1
      have z5 : w.heap.size + 1 < wr.heap.size := by omega
      go_wp2_with fail
      refine bodyPost_ret (v := .tuple #[.agg #[.int .i64 nv, .int .i64 dm, .slice av M.length cv'], .int .i64 0]) (by simp [results, Tryz.results16, go_sem, q0, q1, q2]) rfl (Hgood.out _ _ ?_ ?_)
      · exact (ThsO.put (ThsO.put (ThsO.put HT.out (by omega) (fun b hb => by have h1 := hInlt b hb; have : b < w.heap.size := hb; omega) _) (by omega) (fun b hb => by have h1 := hInlt b hb; have : b < w.heap.size := hb; simp; omega) _) (by omega) (fun b hb => by have h1 := hInlt b hb; have : b < w.heap.size := hb; simp; omega) _).down (by omega)
      · exact (((HB1.out.trans (HK.out.1.mono (by omega))).setCell (by simp) _).setCell (by simp) _).setCell (by simp) _
end Go.Proofs.YtekmcoflagajkaaGreatDoor
namespace Go.Proofs.YtekmcoflagajkaaGreatDoor
open Go.RowKit

/-- No expression lies in a block of three cells. -/
theorem ExIn.avoid {w : World} {S : Nat → Prop} {X : Nat} (hX : ∀ o, w.cell? ⟨X, o + 3, none⟩ = none) {cs : List Value} {x : Ex} (h : ExIn w S cs x) : ExIn w (fun b => S b ∧ b ≠ X) cs x := by
  induction h with
  | mk k n o a cap l cs wk wn wo hs hk ih =>
    refine .mk k n o a cap l cs wk wn wo ⟨hs.le, hs.mx, fun h0 => ?_⟩ (fun i hi => ih i hi)
    obtain ⟨b, off, rfl, hb, hc⟩ := hs.at_ h0
    refine ⟨b, off, rfl, ⟨hb, fun e => ?_⟩, hc⟩
    have h1 := hc 0 h0 3 (by omega)
    obtain ⟨u0, u1, u2, u3, e4⟩ := (hk 0 h0).four
    rw [e4, e] at h1
    simp only [Nat.zero_mul, Nat.zero_add] at h1
    rw [hX] at h1
    cases h1
theorem InsO.avoid {w : World} {B : Nat} {S : Nat → Prop} {X : Nat} {v : Value} {L : List Ins} (hX : ∀ o, w.cell? ⟨X, o + 3, none⟩ = none) (h : InsO w B S v L) : InsO w B (fun b => S b ∧ b ≠ X) v L := by
  obtain ⟨LL, h0, h1, h2⟩ := h
  exact ⟨LL, h0, h1, fun y hy => ⟨(h2 y hy).1.avoid hX, (h2 y hy).2.avoid hX⟩⟩
theorem ThsO.avoid {w : World} {B : Nat} {S : Nat → Prop} {X : Nat} {v : Value} {T : List (List Ins)} (hX : ∀ o, w.cell? ⟨X, o + 3, none⟩ = none) (h : ThsO w B S v T) : ThsO w B (fun b => S b ∧ b ≠ X) v T := by
  obtain ⟨LL, h0, h1, h2, h3, h4⟩ := h
  exact ⟨LL, h0, h1, fun y hy => (h2 y hy).avoid hX, h3, h4⟩
theorem ThsO.widen {w : World} {B : Nat} {S S' : Nat → Prop} {v : Value} {T : List (List Ins)} (h : ThsO w B S v T) (hS : ∀ b, S b → S' b) : ThsO w B S' v T := by
  obtain ⟨LL, h0, h1, h2, h3, h4⟩ := h
  exact ⟨LL, h0, h1, fun y hy => (h2 y hy).widen hS, h3, h4⟩
theorem KdIn.up {w : World} {B B' : Nat} {a : Option Addr} {n cap : Nat} (h : KdIn w B a n cap) (hB : B ≤ B') : KdIn w B' a n cap := by
  obtain ⟨h1, h2, h3, b, off, e, hb, hc⟩ := h
  exact ⟨h1, h2, h3, b, off, e, by omega, hc⟩

/-- What the maker of code leaves. -/
def MadeC (w : World) (e : Ending) (w' : World) : Prop :=
  ∃ (p : Pg) (n0 : Nat) (v : Value), e = .returned (.agg #[.int .i64 p.vars.length, .int .i64 p.dom, v]) ∧ rightP p = true ∧ 1 ≤ p.ths.length ∧ p.ths.length ≤ 3 ∧ p.vars.length ≤ 3 ∧
    ThsO w' n0 (fun b => b < n0) v (cmpT p.ths) ∧ w.heap.size ≤ n0 ∧ n0 ≤ w'.heap.size ∧ Below w.heap.size w w'

set_option maxRecDepth 100000 in
set_option maxHeartbeats 4000000 in
theorem madeC_any (w : World) (la : Option Addr) (ln lc : Nat) (ka : Option Addr) (kn kc : Nat) (hl : U8s w (In_ w) la ln lc) (hK : KdIn w w.heap.size ka kn kc) :
    Calls Tryz.prog 6 #[.slice la ln lc, .slice ka kn kc] w (MadeC w) := by
  generalize hW : w.alloc (.cells #[.int .i64 0, .int .i64 0, .slice none 0 0] 25) = W0
  have hB : Below w.heap.size w W0 := by subst hW; exact (Below.refl _ _).alloc (Nat.le_refl _) _
  have z0 : W0.heap.size = w.heap.size + 1 := by subst hW; simp
  have hR : W0.heap[w.heap.size]? = some (.cells #[.int .i64 0, .int .i64 0, .slice none 0 0] 25 (0, 0)) := by subst hW; exact heap_alloc_new w _
  have hKB := Kp.of hB
  have hl0 : U8s W0 (In_ W0) la ln lc := (hl.keep fun b o hb => hKB.2 b o hb).widen (In_.mono hB.size)
  have hK0 : KdIn W0 W0.heap.size ka kn kc := (hK.keep fun b o hb => hKB.2 b o hb).up hB.size
  have hmade := hid (madeP_any W0 la ln lc ka kn kc hl0 hK0)
  have HB := hid hB
  have HR := hid hR
  have hWx := hid hW
  clear hW hB hR hKB hl0 hK0 hl hK
  go_enter Tryz.func6, Tryz.ntmps6
  go_wp2_with fail
  rw [hWx.out]
  refine hmade.out.mono ?_
  intro e w1 hp1
  obtain ⟨p, cs, rfl, hP, hright, hv3, ht3, ht1, hb1⟩ := hp1.right
  have hP0 := hP
  obtain ⟨va, cv, ta, ct, rfl, -, -, -⟩ := hP
  have h4 := hid (rCompile_any p _ w1 hP0)
  have HB1 := hid (HB.out.trans (hb1.mono (by omega)))
  have HR1 := hid ((hb1.block _ (by omega)).trans HR.out)
  have zz := hb1.size
  have Hright := hid hright
  clear hp1 hb1 hmade hP0 hright HB HR hWx
  go_wp2_with fail
  refine h4.out.mono ?_
  intro e w2 hp2
  obtain ⟨v, rfl, hT, hb2⟩ := hp2
  rw [Hright.out] at hT
  simp only [Hright.out, if_true] at hT ⊢
  have hR2 := (hb2.block _ (by omega)).trans HR1.out
  have hB2 := HB1.out.trans (hb2.mono (by omega))
  have z2 := hb2.size
  have hX : ∀ o, w2.cell? ⟨w.heap.size, o + 3, none⟩ = none := fun o => by rw [cell_of_heap hR2]; simp
  have hT2 := hT.avoid hX
  clear hX hb2 h4 HB1 HR1 hT
  generalize hV5 : w2.alloc (.cells #[.int .i64 p.vars.length, .int .i64 p.dom, v] 25) = W5
  have hB5 : Below w2.heap.size w2 W5 := by subst hV5; exact (Below.refl _ _).alloc (Nat.le_refl _) _
  have y0 : W5.cell? ⟨w2.heap.size, 0, none⟩ = some (.int .i64 p.vars.length) := by subst hV5; go_simp
  have y1 : W5.cell? ⟨w2.heap.size, 1, none⟩ = some (.int .i64 p.dom) := by subst hV5; go_simp
  have y2 : W5.cell? ⟨w2.heap.size, 2, none⟩ = some v := by subst hV5; go_simp
  have z5 : w2.heap.size < W5.heap.size := by subst hV5; simp
  have hR5 := (hB5.block _ (by omega)).trans hR2
  have r0 := cell_of_heap (j := 0) hR5
  have r1 := cell_of_heap (j := 1) hR5
  have r2 := cell_of_heap (j := 2) hR5
  simp at r0 r1 r2
  have zR := fun j => unfrozen (j := j) hR5
  have lR : w.heap.size < W5.heap.size := by omega
  obtain ⟨ta2, tc2, hve⟩ := hT2.sl
  subst hve
  have hT5 := hid (hT2.later (n := w2.heap.size) hB5 (Nat.le_refl _) fun b hb => by have := hb.1; unfold In_ at this; omega)
  have HB5 := hid (hB2.trans (hB5.mono (by omega)))
  have hR6 : (((W5.setCell ⟨w.heap.size, 0, none⟩ (.int .i64 p.vars.length)).setCell ⟨w.heap.size, 1, none⟩ (.int .i64 p.dom)).setCell ⟨w.heap.size, 2, none⟩ (.slice ta2 (cmpT p.ths).length tc2)).heap[w.heap.size]? = some (.cells #[.int .i64 p.vars.length, .int .i64 p.dom, .slice ta2 (cmpT p.ths).length tc2] 25 (0, 0)) := by
    simp [World.setCell, Array.getElem?_modify, hR5]
  have g0 := hid (cell_of_heap (j := 0) hR6)
  have g1 := hid (cell_of_heap (j := 1) hR6)
  have g2 := hid (cell_of_heap (j := 2) hR6)
  have hV5x := hid hV5
  clear hV5 hB5 hT2 hB2 hR2 hR5 hR6
  go_upto_region 2 with fail
  rw [hV5x.out]
  go_wp2_with fail
  refine bodyPost_ret (v := .agg #[.int .i64 p.vars.length, .int .i64 p.dom, .slice ta2 (cmpT p.ths).length tc2]) ?_ rfl ?_
  · simp [results, Tryz.results6, go_sem, g0.out, g1.out, g2.out]
  · refine ⟨p, w1.heap.size, .slice ta2 (cmpT p.ths).length tc2, rfl, Hright.out, ht1, ht3, hv3, ?_, by omega, by simp; omega, ((HB5.out.setCell (by simp) _).setCell (by simp) _).setCell (by simp) _⟩
    have h6 : ThsO (((W5.setCell ⟨w.heap.size, 0, none⟩ (.int .i64 p.vars.length)).setCell ⟨w.heap.size, 1, none⟩ (.int .i64 p.dom)).setCell ⟨w.heap.size, 2, none⟩ (.slice ta2 (cmpT p.ths).length tc2)) w1.heap.size (fun b => In_ w1 b ∧ b ≠ w.heap.size) (.slice ta2 (cmpT p.ths).length tc2) (cmpT p.ths) := by
      have hS : ∀ W : World, W5.heap.size ≤ W.heap.size → ∀ b, (In_ w1 b ∧ b ≠ w.heap.size) → b < W.heap.size ∧ b ≠ w.heap.size := fun W hW b hb => ⟨by have := hb.1; unfold In_ at this; omega, hb.2⟩
      refine ThsO.put (ThsO.put (ThsO.put hT5.out (by omega) (hS _ (Nat.le_refl _)) _) (by omega) (hS _ (by simp)) _) (by omega) (hS _ (by simp)) _
    exact h6.widen fun b hb => hb.1
end Go.Proofs.YtekmcoflagajkaaGreatDoor
