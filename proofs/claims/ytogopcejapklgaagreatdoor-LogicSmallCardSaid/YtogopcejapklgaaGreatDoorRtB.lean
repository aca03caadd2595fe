/- The checker's right: true of a formula that may be. -/
import Derived.Test.YtogopcejapklgaaGreatDoorRtA
import Derived.Laws.EntriesVeiled
namespace Go.Proofs.YtogopcejapklgaaGreatDoor
open Go Go.RowKit

/-- On the way: the boxes of the checker, of the formula, of the depth. -/
structure RSt (w x : World) (C mb : Nat) (c : Int) (d : Nat) (k pk pt pa pn : Int) (v : Value) : Prop where
  gr : w.grownBy x (some C)
  cb : CBox x C mb c
  n0 : x.cell? ⟨w.heap.size, 0, none⟩ = some (.pointer (some ⟨C, 0, none⟩))
  n1 : x.heap[w.heap.size + 1]? = some (.cells #[.int .i64 k, .int .i64 pk, .int .i64 pt, .int .i64 pa, .int .i64 pn, v] 30 (0, 0))
  n2 : x.cell? ⟨w.heap.size + 1 + 1, 0, none⟩ = some (.int .i64 ((d : Int) + 1))
  sz : w.heap.size + 1 + 1 < x.heap.size
  lt : C < w.heap.size
namespace RSt
variable {w x y : World} {C mb d : Nat} {c c' k pk pt pa pn : Int} {v : Value}
theorem next (h : RSt w x C mb c d k pk pt pa pn v) {r : Option Nat} (hg : x.grownBy y r) (hr : ∀ k, r = some k → k = C ∨ w.heap.size + 1 + 1 < k) (hc : CBox y C mb c') : RSt w y C mb c' d k pk pt pa pn v := by
  have hs := h.sz
  have hl := h.lt
  have hk : ∀ b, b ≤ w.heap.size + 1 + 1 → b ≠ C → y.heap[b]? = x.heap[b]? := fun b hlt hne => hg.block b (by omega) fun e => by rcases hr b e.symm with h | h <;> omega
  have hgr := h.gr
  refine ⟨⟨hg.os.trans hgr.os, hg.tape.trans hgr.tape, hg.output.trans hgr.output, Nat.le_trans hgr.size hg.size, fun b hb hne => (hk b (by omega) (by simpa using hne)).trans (hgr.block b hb hne)⟩, hc, ?_, ?_, ?_, Nat.lt_of_lt_of_le hs hg.size, hl⟩
  · exact (World.cell?_of_block (w := x) (a := ⟨w.heap.size, 0, none⟩) (hk w.heap.size (by omega) (by omega))).trans h.n0
  · exact (hk (w.heap.size + 1) (by omega) (by omega)).trans h.n1
  · exact (World.cell?_of_block (w := x) (a := ⟨w.heap.size + 1 + 1, 0, none⟩) (hk (w.heap.size + 1 + 1) (by omega) (by omega))).trans h.n2
theorem grown (h : RSt w x C mb c d k pk pt pa pn v) {r : Option Nat} (hg : x.grownBy y r) (hr : ∀ k, r = some k → w.heap.size + 1 + 1 < k) : RSt w y C mb c d k pk pt pa pn v :=
  h.next hg (fun k e => .inr (hr k e)) (h.cb.grown hg fun k e => by have := hr k e; have := h.lt; omega)
theorem drew (h : RSt w x C mb c d k pk pt pa pn v) : RSt w x.drew C mb c d k pk pt pa pn v := h.grown (r := none) (grown_drew (grown_refl _ _)) fun _ e => by cases e
theorem held (h : RSt w x C mb c d k pk pt pa pn v) : x.cell? ⟨w.heap.size, 0, none⟩ = some (.pointer (some ⟨C, 0, none⟩)) ∧ x.cell? ⟨C, 1, none⟩ = some (.map (some mb)) ∧ x.cell? ⟨w.heap.size + 1, 0, none⟩ = some (.int .i64 k) :=
  ⟨h.n0, h.cb.cells.2.1, by rw [cell_of_heap h.n1]; rfl⟩
theorem six (h : RSt w x C mb c d k pk pt pa pn v) : x.cell? ⟨w.heap.size + 1, 0, none⟩ = some (.int .i64 k) ∧ x.cell? ⟨w.heap.size + 1, 1, none⟩ = some (.int .i64 pk) ∧ x.cell? ⟨w.heap.size + 1, 2, none⟩ = some (.int .i64 pt) ∧ x.cell? ⟨w.heap.size + 1, 3, none⟩ = some (.int .i64 pa) ∧ x.cell? ⟨w.heap.size + 1, 4, none⟩ = some (.int .i64 pn) ∧ x.cell? ⟨w.heap.size + 1, 5, none⟩ = some v := by
  refine ⟨?_, ?_, ?_, ?_, ?_, ?_⟩
  all_goals (rw [cell_of_heap h.n1]; rfl)
end RSt

set_option maxRecDepth 100000 in
set_option maxHeartbeats 8000000 in
theorem right_step (d : Nat) (hd : d ≤ 19) (hR : RtAt d) : RtAt (d + 1) := by
  intro C mb c f a cap w hok h0 hc hC hin
  obtain ⟨k, p, l⟩ := f
  obtain ⟨pk, pt, pa, pn⟩ := p
  simp only [Fm.kind, Fm.prop, Fm.kids] at hin ⊢
  rw [okD_succ] at hok
  obtain ⟨hok, hl⟩ := hok
  obtain ⟨a', cap', e', -, -, hrow⟩ := hin.open_
  simp only [List.cons.injEq, Value.slice.injEq, and_true, true_and] at e'
  obtain ⟨rfl, rfl⟩ := e'
  rw [Fm.size_eq] at hc ⊢
  have hlC := hC.sz
  have HC := hid hC
  have Hrow := hid hrow
  have Hl := hid hl
  have Hok := hid hok
  have HR := hid hR
  have hcl : 0 ≤ (Fm.sizeL l : Int) := by omega
  obtain ⟨q9, qx, qf⟩ := hC.cells
  have qf := qf 0
  clear hC hin hrow hl hR hok
  have ed : ((d + 1 : Nat) : Int) = (d : Int) + 1 := by omega
  rw [ed]
  clear ed
  go_enter Tryz.func36, Tryz.ntmps36
  go_upto_region 1 with fail
  generalize hW : World.alloc _ _ = W0
  have hS0 : Hid (RSt w W0 C mb c d k pk pt pa pn (.slice a l.length cap)) := by
    subst hW
    refine ⟨grown_alloc (grown_alloc (grown_alloc (grown_refl _ _) _) _) _, ((HC.out.grown (World.grownBy_alloc _ _ none) (fun k e => by cases e)).grown (World.grownBy_alloc _ _ none) (fun k e => by cases e)).grown (World.grownBy_alloc _ _ none) (fun k e => by cases e), by go_simp, ?_, by go_simp, by simp, hlC⟩
    exact (Below.heap_alloc _ _ _ (by simp)).trans (alloc_at (by simp))
  clear hW q9 qx qf
  obtain ⟨q9, qx, qf⟩ := hS0.out.cb.cells
  have qf := qf 0
  have n0 := hS0.out.n0
  go_upto_region 2 with fail
  generalize hW : World.setCell W0 _ _ = W1
  have hw1 : Hid (RSt w W1 C mb (c + 1) d k pk pt pa pn (.slice a l.length cap)) := by
    subst hW
    exact hS0.out.next (grown_set _ _ _ _) (fun k e => .inl (Option.some.inj e).symm) (hS0.out.cb.more _)
  have hrow1 : Hid (∀ x, w.grownBy x (some C) → FmRow x (fun b => b < C) a l.length cap l) := fun x hg => Hrow.out.keep fun b o hb => World.cell?_of_block (w := w) (a := ⟨b, o, none⟩) (hg.block b (by have hb' : b < C := hb; omega) (by have hb' : b < C := hb; simp; omega))
  clear hW q9 qx qf n0 hS0 HC Hrow
  have n0 := hw1.out.n0
  have n2 := hw1.out.n2
  obtain ⟨q9, qx, qf⟩ := hw1.out.cb.cells
  obtain ⟨z0, z1, z2, z3, z4, z5⟩ := hw1.out.six
  have dc : decide (200 < c + 1) = false := decide_eq_false (by omega)
  have dd : decide ((d : Int) + 1 < 1) = false := decide_eq_false (by omega)
  rcases Hok.out with ⟨rfl, hP, rfl⟩ | ⟨hk, hpz, hn⟩
  · have hcall := hid (fun W => lprop_any _ hP W)
    have hfin : Hid (∀ x, Below W1.heap.size W1 x → CBox x C mb (c + ((1 + Fm.sizeL [] : Nat) : Int)) ∧ w.grownBy x (some C)) := fun x hb => by
      have := hw1.out.grown (below_grown hb none) (fun k e => by cases e)
      rw [Fm.sizeL_nil]
      exact ⟨this.cb, this.gr⟩
    clear hP Hok
    go_wp2_with (first
      | (go_at_call 51
         with_reducible refine (hcall.out _).mono ?_
         rintro e w2 ⟨rfl, hb2⟩
         have hS2 := hid (hw1.out.grown (below_grown hb2 none) (fun k e => by cases e))
         have hx2 := hid (hfin.out _ hb2)
         obtain ⟨y0, y1, y2, y3, y4, y5⟩ := hS2.out.six
         clear hb2)
      | fail)
    go_ret
    exact ⟨rfl, hx2.out⟩
  · have Hn := hid hn
    clear hn
    have hk3 : (k == 3) = false := by simpa using hk.ne
    obtain ⟨rfl, rfl, rfl, rfl⟩ : pk = 0 ∧ pt = 0 ∧ pa = 0 ∧ pn = 0 := by
      have : (⟨pk, pt, pa, pn⟩ : Pr) = ⟨0, 0, 0, 0⟩ := hpz
      injection this with e1 e2 e3 e4
      exact ⟨e1, e2, e3, e4⟩
    obtain ⟨pk, hpk⟩ : ∃ z : Int, z = 0 := ⟨0, rfl⟩
    go_upto_region 6 with fail
    have HS := hw1
    clear hpz n0 n2 q9 qx qf z0 z1 z2 z3 z4 z5 hpk pk
    obtain ⟨pk, hpk⟩ : ∃ z : Int, z = 0 := ⟨0, rfl⟩
    obtain ⟨pt, hpt⟩ : ∃ z : Int, z = 0 := ⟨0, rfl⟩
    obtain ⟨pa, hpa⟩ : ∃ z : Int, z = 0 := ⟨0, rfl⟩
    obtain ⟨pn, hpn⟩ : ∃ z : Int, z = 0 := ⟨0, rfl⟩
    obtain ⟨v, hv⟩ : ∃ v, v = Value.slice a l.length cap := ⟨_, rfl⟩
    have HS : Hid (RSt w W1 C mb (c + 1) d k pk pt pa pn v) := by subst hpk hpt hpa hpn hv; exact HS.out
    have Hz := hid (And.intro hpk (And.intro hpt (And.intro hpa (And.intro hpn hv))))
    clear hpk hpt hpa hpn hv hw1
    obtain ⟨c1, hcc⟩ : ∃ c1 : Int, c1 = c + 1 := ⟨_, rfl⟩
    rw [← hcc] at HS
    have Hcc := hid hcc
    clear hcc
    go_cut [7, 8] from 38 to 48 (fun t7 t8 wx => ∃ bs : Nat, t7 = .pointer (some ⟨bs, 0, none⟩) ∧ t8 = .bool true ∧ RSt w wx C mb c1 d k pk pt pa pn v ∧ wx.heap[bs]? = some (.cells #[strV (frmN k), .int .i64 (frmK k)] 89 (0, 0)))
    case first =>
      obtain ⟨q0, q1, q2⟩ := HS.out.drew.held
      have HS := hid HS.out.drew
      refine wp_region_held_drew (S := fun W => W.cell? ⟨w.heap.size, 0, none⟩ = some (.pointer (some ⟨C, 0, none⟩)) ∧ W.cell? ⟨C, 1, none⟩ = some (.map (some mb)) ∧ W.cell? ⟨w.heap.size + 1, 0, none⟩ = some (.int .i64 k)) (by kernel_rfl) ⟨q0, q1, q2⟩ (fun hHeld => ?_)
      generalize World.drew W1 = x0 at HS q0 q1 q2 hHeld ⊢
      refine takeL (i := 0) (v := ?_) rfl (by kernel_rfl) (by kernel_rfl) (by kernel_rfl) (fun _ _ _ h => h) (Or.inl ⟨by rfl, ?_⟩) (by assumption) ?_
      rotate_left
      focus (intro w hSw; go_simp; try with_reducible rfl)
      try simp only [Act.put, List.setIfInBounds_toArray, List.set_cons_zero, List.set_cons_succ]
      refine takeL (i := 1) (v := ?_) rfl (by kernel_rfl) (by kernel_rfl) (by kernel_rfl) (fun _ _ _ h => h) (Or.inl ⟨by rfl, ?_⟩) (by assumption) ?_
      rotate_left
      focus (intro w hSw; go_simp; try with_reducible rfl)
      try simp only [Act.put, List.setIfInBounds_toArray, List.set_cons_zero, List.set_cons_succ]
      refine takeL (i := 2) (v := ?_) rfl (by kernel_rfl) (by kernel_rfl) (by kernel_rfl) (fun _ _ _ h => h) (Or.inl ⟨by rfl, ?_⟩) (by assumption) ?_
      rotate_left
      focus (intro w hSw; go_simp; try with_reducible rfl)
      try simp only [Act.put, List.setIfInBounds_toArray, List.set_cons_zero, List.set_cons_succ]
      refine takeL (i := 3) (v := ?_) rfl (by kernel_rfl) (by kernel_rfl) (by kernel_rfl) (fun _ _ _ h => h) (Or.inl ⟨by rfl, ?_⟩) (by assumption) ?_
      rotate_left
      focus (intro w hSw; go_simp; try with_reducible rfl)
      try simp only [Act.put, List.setIfInBounds_toArray, List.set_cons_zero, List.set_cons_succ]
      refine takeL (i := 4) (v := ?_) rfl (by kernel_rfl) (by kernel_rfl) (by kernel_rfl) (fun _ _ _ h => h) (Or.inl ⟨by rfl, ?_⟩) (by assumption) ?_
      rotate_left
      focus (intro w hSw; go_simp; try with_reducible rfl)
      try simp only [Act.put, List.setIfInBounds_toArray, List.set_cons_zero, List.set_cons_succ]
      refine takeL (i := 5) (v := ?_) rfl (by kernel_rfl) (by kernel_rfl) (by kernel_rfl) (fun _ _ _ h => h) (Or.inl ⟨by rfl, ?_⟩) (by assumption) ?_
      rotate_left
      focus (intro w hSw; go_simp; try with_reducible rfl)
      try simp only [Act.put, List.setIfInBounds_toArray, List.set_cons_zero, List.set_cons_succ]
      refine callL2 (i := 6) (j := 10) (by kernel_rfl) rfl rfl (fun K hQ => ?_) (fun K hQ => ?_)
      · refine step_look_ok ?_ (.tmp 42) (.tmp 44) 70 3 89 ?_ Tryz.underlying70 Tryz.underlying3 frmZ frm_zero mb frmT ?_ HS.out.cb.mp k ?_ (.agg #[strV (frmN k), .int .i64 (frmK k)]) (frmT_get hk frmZ).1 true (frmT_get hk frmZ).2 ?_
        · rfl
        · rfl
        · rfl
        · rfl
        refine hQ.out _ _ ⟨q0, q1, q2⟩ (fun hHeld => ?_)
        clear hQ
        try simp only [Act.put, List.setIfInBounds_toArray, List.set_cons_zero, List.set_cons_succ]
        refine takeL (i := 7) (v := ?_) rfl (by kernel_rfl) (by kernel_rfl) (by kernel_rfl) (fun _ _ _ h => h) (Or.inl ⟨by rfl, ?_⟩) (by assumption) ?_
        rotate_left
        focus (intro w hSw; go_simp; try with_reducible rfl)
        try simp only [Act.put, List.setIfInBounds_toArray, List.set_cons_zero, List.set_cons_succ]
        refine takeL (i := 8) (v := ?_) rfl (by kernel_rfl) (by kernel_rfl) (by kernel_rfl) (fun _ _ _ h => h) (Or.inl ⟨by rfl, ?_⟩) (by assumption) ?_
        rotate_left
        focus (intro w hSw; go_simp; try with_reducible rfl)
        try simp only [Act.put, List.setIfInBounds_toArray, List.set_cons_zero, List.set_cons_succ]
        refine takeL (i := 9) (v := ?_) rfl (by kernel_rfl) (by kernel_rfl) (by kernel_rfl) (fun _ _ _ h => h) (Or.inl ⟨by rfl, ?_⟩) (by assumption) ?_
        rotate_left
        focus (intro w hSw; go_simp; try with_reducible rfl)
        try simp only [Act.put, List.setIfInBounds_toArray, List.set_cons_zero, List.set_cons_succ]
        refine callL (i := 10) (by kernel_rfl) rfl (fun K hQ => ?_)
        go_simp
        generalize hx : World.alloc x0 _ = x1
        have HZ : Hid (x1.heap[x0.heap.size]? = some (.cells #[.string ⟨#[]⟩, .int .i64 0] 89 (0, 0))) := by subst hx; exact alloc_at rfl
        have hbw : w.heap.size + 1 + 1 < x0.heap.size := HS.out.sz
        have HS : Hid (RSt w x1 C mb c1 d k pk pt pa pn v) := by subst hx; exact HS.out.grown (World.grownBy_alloc _ _ none) (fun k e => by cases e)
        obtain ⟨q0, q1, q2⟩ := HS.out.held
        clear hx
        refine hQ.out _ _ ⟨q0, q1, q2⟩ (fun hHeld => ?_)
        clear hQ
        try simp only [Act.put, List.setIfInBounds_toArray, List.set_cons_zero, List.set_cons_succ]
        refine callL (i := 11) (by kernel_rfl) rfl (fun K hQ => ?_)
        have zz0 := cell_of_heap (j := 0) HZ.out
        have zz1 := cell_of_heap (j := 1) HZ.out
        simp at zz0 zz1
        have zzf : ∀ j, x1.frozen? ⟨x0.heap.size, j, none⟩ = false := fun j => unfrozen HZ.out
        go_simp
        have HX : Hid (RSt w ((x1.setCell ⟨x0.heap.size, 0, none⟩ (strV (frmN k))).setCell ⟨x0.heap.size, 1, none⟩ (.int .i64 (frmK k))) C mb c1 d k pk pt pa pn v ∧ ((x1.setCell ⟨x0.heap.size, 0, none⟩ (strV (frmN k))).setCell ⟨x0.heap.size, 1, none⟩ (.int .i64 (frmK k))).heap[x0.heap.size]? = some (.cells #[strV (frmN k), .int .i64 (frmK k)] 89 (0, 0))) := ⟨(HS.out.grown (grown_set _ _ _ _) (fun k e => by cases e; exact hbw)).grown (grown_set _ _ _ _) (fun k e => by cases e; exact hbw), by simp [World.setCell, Array.getElem?_modify, HZ.out]⟩
        obtain ⟨q0, q1, q2⟩ := HX.out.1.held
        refine hQ.out _ _ ⟨q0, q1, q2⟩ (fun hHeld => ?_)
        clear hQ
        try simp only [Act.put, List.setIfInBounds_toArray, List.set_cons_zero, List.set_cons_succ]
        refine takeL (i := 12) (v := ?_) rfl (by kernel_rfl) (by kernel_rfl) (by kernel_rfl) (fun _ _ _ h => h) (Or.inl ⟨by rfl, ?_⟩) (by assumption) ?_
        rotate_left
        focus (intro w hSw; go_simp; try with_reducible rfl)
        try simp only [Act.put, List.setIfInBounds_toArray, List.set_cons_zero, List.set_cons_succ]
        refine wpAnyH_done (by kernel_rfl) ?_ _
        go_wp2_with fail
        go_meet
        case rel => exact ⟨x0.heap.size, rfl, rfl, HX.out⟩
      · go_simp
        generalize hx : World.alloc x0 _ = x2
        have HZ : Hid (x2.heap[x0.heap.size]? = some (.cells #[.string ⟨#[]⟩, .int .i64 0] 89 (0, 0))) := by subst hx; exact alloc_at rfl
        have hbw : w.heap.size + 1 + 1 < x0.heap.size := HS.out.sz
        have HS : Hid (RSt w x2 C mb c1 d k pk pt pa pn v) := by subst hx; exact HS.out.grown (World.grownBy_alloc _ _ none) (fun k e => by cases e)
        obtain ⟨q0, q1, q2⟩ := HS.out.held
        clear hx
        refine hQ.out _ _ ⟨q0, q1, q2⟩ (fun hHeld => ?_)
        clear hQ
        try simp only [Act.put, List.setIfInBounds_toArray, List.set_cons_zero, List.set_cons_succ]
        refine callL (i := 6) (by kernel_rfl) rfl (fun K hQ => ?_)
        refine step_look_ok ?_ (.tmp 42) (.tmp 44) 70 3 89 ?_ Tryz.underlying70 Tryz.underlying3 frmZ frm_zero mb frmT ?_ HS.out.cb.mp k ?_ (.agg #[strV (frmN k), .int .i64 (frmK k)]) (frmT_get hk frmZ).1 true (frmT_get hk frmZ).2 ?_
        · rfl
        · rfl
        · rfl
        · rfl
        refine hQ.out _ _ ⟨q0, q1, q2⟩ (fun hHeld => ?_)
        clear hQ
        try simp only [Act.put, List.setIfInBounds_toArray, List.set_cons_zero, List.set_cons_succ]
        refine takeL (i := 7) (v := ?_) rfl (by kernel_rfl) (by kernel_rfl) (by kernel_rfl) (fun _ _ _ h => h) (Or.inl ⟨by rfl, ?_⟩) (by assumption) ?_
        rotate_left
        focus (intro w hSw; go_simp; try with_reducible rfl)
        try simp only [Act.put, List.setIfInBounds_toArray, List.set_cons_zero, List.set_cons_succ]
        refine takeL (i := 8) (v := ?_) rfl (by kernel_rfl) (by kernel_rfl) (by kernel_rfl) (fun _ _ _ h => h) (Or.inl ⟨by rfl, ?_⟩) (by assumption) ?_
        rotate_left
        focus (intro w hSw; go_simp; try with_reducible rfl)
        try simp only [Act.put, List.setIfInBounds_toArray, List.set_cons_zero, List.set_cons_succ]
        refine takeL (i := 9) (v := ?_) rfl (by kernel_rfl) (by kernel_rfl) (by kernel_rfl) (fun _ _ _ h => h) (Or.inl ⟨by rfl, ?_⟩) (by assumption) ?_
        rotate_left
        focus (intro w hSw; go_simp; try with_reducible rfl)
        try simp only [Act.put, List.setIfInBounds_toArray, List.set_cons_zero, List.set_cons_succ]
        refine callL (i := 11) (by kernel_rfl) rfl (fun K hQ => ?_)
        have zz0 := cell_of_heap (j := 0) HZ.out
        have zz1 := cell_of_heap (j := 1) HZ.out
        simp at zz0 zz1
        have zzf : ∀ j, x2.frozen? ⟨x0.heap.size, j, none⟩ = false := fun j => unfrozen HZ.out
        go_simp
        have HX : Hid (RSt w ((x2.setCell ⟨x0.heap.size, 0, none⟩ (strV (frmN k))).setCell ⟨x0.heap.size, 1, none⟩ (.int .i64 (frmK k))) C mb c1 d k pk pt pa pn v ∧ ((x2.setCell ⟨x0.heap.size, 0, none⟩ (strV (frmN k))).setCell ⟨x0.heap.size, 1, none⟩ (.int .i64 (frmK k))).heap[x0.heap.size]? = some (.cells #[strV (frmN k), .int .i64 (frmK k)] 89 (0, 0))) := ⟨(HS.out.grown (grown_set _ _ _ _) (fun k e => by cases e; exact hbw)).grown (grown_set _ _ _ _) (fun k e => by cases e; exact hbw), by simp [World.setCell, Array.getElem?_modify, HZ.out]⟩
        obtain ⟨q0, q1, q2⟩ := HX.out.1.held
        refine hQ.out _ _ ⟨q0, q1, q2⟩ (fun hHeld => ?_)
        clear hQ
        try simp only [Act.put, List.setIfInBounds_toArray, List.set_cons_zero, List.set_cons_succ]
        refine takeL (i := 12) (v := ?_) rfl (by kernel_rfl) (by kernel_rfl) (by kernel_rfl) (fun _ _ _ h => h) (Or.inl ⟨by rfl, ?_⟩) (by assumption) ?_
        rotate_left
        focus (intro w hSw; go_simp; try with_reducible rfl)
        try simp only [Act.put, List.setIfInBounds_toArray, List.set_cons_zero, List.set_cons_succ]
        refine wpAnyH_done (by kernel_rfl) ?_ _
        go_wp2_with fail
        go_meet
        case rel => exact ⟨x0.heap.size, rfl, rfl, HX.out⟩
    case rest =>
      obtain ⟨bs, rfl, rfl, hS, hbs⟩ := hcut
      obtain ⟨rfl, rfl, rfl, rfl, rfl⟩ := Hz.out
      obtain ⟨z0, z1, z2, z3, z4, z5⟩ := hS.six
      have n0 := hS.n0
      have y0 := cell_of_heap (j := 0) hbs
      have y1 := cell_of_heap (j := 1) hbs
      simp at y0 y1
      have hmf : ∀ (fn : Fn) (first cap : Array Value) (w : World), (Instr.makeFunc fn first cap).run Tryz.prog w = .ok (.func fn first cap) w := fun _ _ _ _ => rfl
      have heq : ((l.length : Int) == (frmK k : Int)) = true := by rw [Hn.out]; simp
      have hcall := rcontains_any d (by omega) HR.out C mb w.heap.size (w.heap.size + 1 + 1) c1 l a cap wc Hl.out (by have := Hcc.out; omega) (by have := Hcc.out; omega) hS.cb (hrow1.out wc hS.gr) hS.n0 hS.n2 (by have := hS.sz; omega) hS.sz (by have := hS.lt; omega) (by have := hS.lt; omega)
      have hcall := hid hcall
      have HSc := hid hS
      clear hS hbs
      generalize frmK k = fk at *
      generalize frmN k = nm at *
      go_wp2_with (first
        | (go_at_call 53
           with_reducible refine hcall.out.mono ?_
           rintro e w2 ⟨rfl, hC2, hg2⟩
           have hX := hid (And.intro hC2 hg2)
           clear hC2 hg2)
        | fail)
      go_ret
      refine ⟨rfl, ?_, grown_trans HSc.out.gr hX.out.2⟩
      have h := hX.out.1
      rw [Hcc.out] at h
      rw [show c + ((1 + Fm.sizeL l : Nat) : Int) = c + 1 + (Fm.sizeL l : Int) by omega]
      exact h
end Go.Proofs.YtogopcejapklgaaGreatDoor
