/- The program's prop: true of an atom that may be. -/
import Derived.Test.YtogopcejapklgaaGreatDoorLpA
import Derived.Laws.EntriesVeiled
namespace Go.Proofs.YtogopcejapklgaaGreatDoor
open Go Go.RowKit

theorem putN_nil (k : Int) : putN k [] = ⟨k, 0, 0, 0⟩ := by unfold putN; cases offs k <;> rfl
/-- The functions of the numbers. -/
theorem shpFn_or (k : Int) : shpFn k = 61 ∨ shpFn k = 62 ∨ shpFn k = 63 ∨ shpFn k = 64 ∨ shpFn k = 65 := by
  unfold shpFn
  repeat' split
  all_goals simp
/-- The atom's box; nothing that was there has turned. -/
structure PSt (w x : World) (p : Pr) : Prop where
  bl : Below w.heap.size w x
  hp : x.heap[w.heap.size]? = some (prO p)
theorem PSt.k0 {w x : World} {p : Pr} (h : PSt w x p) : x.cell? ⟨w.heap.size, 0, none⟩ = some (.int .i64 p.k) := (prO_cells h.hp).2.2.1
theorem PSt.sz {w x : World} {p : Pr} (h : PSt w x p) : w.heap.size < x.heap.size := (prO_cells h.hp).1
theorem PSt.below {w x y : World} {p : Pr} (h : PSt w x p) (hb : Below x.heap.size x y) : PSt w y p := ⟨h.bl.trans (hb.mono h.bl.size), (hb.block _ h.sz).trans h.hp⟩
theorem PSt.drew {w x : World} {p : Pr} (h : PSt w x p) : PSt w x.drew p := h.below (Below.refl _ _).drew
theorem PSt.set {w x : World} {p : Pr} (h : PSt w x p) {b : Nat} (hne : w.heap.size < b) (u v : Value) : PSt w ((x.setCell ⟨b, 0, none⟩ u).setCell ⟨b, 1, none⟩ v) p :=
  ⟨(h.bl.setCell (by show w.heap.size ≤ b; omega) _).setCell (by show w.heap.size ≤ b; omega) _, by rw [Below.heap_setCell _ _ _ _ (by simp; omega), Below.heap_setCell _ _ _ _ (by simp; omega)]; exact h.hp⟩

set_option maxRecDepth 100000 in
set_option maxHeartbeats 8000000 in
theorem lprop_any (p : Pr) (hok : okP p) (w : World) : Calls Tryz.prog 51 #[.agg #[.int .i64 p.k, .int .i64 p.t, .int .i64 p.a, .int .i64 p.n]] w fun e w' => e = .returned (.bool true) ∧ Below w.heap.size w w' := by
  have hk : isShp p.k := hok.1
  have Hok := hid hok
  clear hok
  go_enter Tryz.func51, Tryz.ntmps51
  go_upto_region 1 with fail
  generalize hW : World.alloc w _ = W0
  have HS : Hid (PSt w W0 p) := by subst hW; exact ⟨(Below.refl _ _).alloc (Nat.le_refl _) _, alloc_at rfl⟩
  clear hW
  go_cut [3, 4] from 9 to 16 (fun t3 t4 wx => ∃ bs : Nat, t3 = .pointer (some ⟨bs, 0, none⟩) ∧ t4 = .bool true ∧ PSt w wx p ∧ wx.heap[bs]? = some (.cells #[strV (shpN p.k), .func (.func (shpFn p.k)) #[] #[]] 81 (0, 0)))
  case first =>
    have q0 : W0.drew.cell? ⟨w.heap.size, 0, none⟩ = some (.int .i64 p.k) := HS.out.k0
    have HS := hid HS.out.drew
    refine wp_region_held_drew (S := fun W => W.cell? ⟨w.heap.size, 0, none⟩ = some (.int .i64 p.k)) (by kernel_rfl) q0 (fun hHeld => ?_)
    generalize World.drew W0 = x0 at HS q0 hHeld ⊢
    refine takeL (i := 1) (v := ?_) rfl (by kernel_rfl) (by kernel_rfl) (by kernel_rfl) (fun _ _ _ h => h) (Or.inl ⟨by rfl, ?_⟩) (by assumption) ?_
    rotate_left
    focus (intro w hSw; go_simp; try with_reducible rfl)
    try simp only [Act.put, List.setIfInBounds_toArray, List.set_cons_zero, List.set_cons_succ]
    refine takeL (i := 2) (v := ?_) rfl (by kernel_rfl) (by kernel_rfl) (by kernel_rfl) (fun _ _ _ h => h) (Or.inl ⟨by rfl, ?_⟩) (by assumption) ?_
    rotate_left
    focus (intro w hSw; go_simp; try with_reducible rfl)
    try simp only [Act.put, List.setIfInBounds_toArray, List.set_cons_zero, List.set_cons_succ]
    refine callL2 (i := 0) (j := 7) (by kernel_rfl) rfl rfl (fun K hQ => ?_) (fun K hQ => ?_)
    · go_simp
      go_at_call 40
      with_reducible refine (shapes_any x0).mono ?_
      rintro e x1 ⟨mb, rfl, hmb, hM, hb⟩
      have HM := hid hM
      have HS := hid (HS.out.below hb)
      have q0 := HS.out.k0
      clear hM hb
      refine hQ.out _ _ q0 (fun hHeld => ?_)
      clear hQ
      try simp only [Act.put, List.setIfInBounds_toArray, List.set_cons_zero, List.set_cons_succ]
      refine callL2 (i := 3) (j := 7) (by kernel_rfl) rfl rfl (fun K hQ => ?_) (fun K hQ => ?_)
      · refine step_look_ok ?_ (.tmp 10) (.tmp 12) 82 3 81 ?_ Tryz.underlying82 Tryz.underlying3 shpZ shp_zero mb shpT ?_ HM.out p.k ?_ (.agg #[strV (shpN p.k), .func (.func (shpFn p.k)) #[] #[]]) (((shpT_get hk shpZ).1).trans (shpV_eq hk)) true (shpT_get hk shpZ).2 ?_
        · rfl
        · rfl
        · rfl
        · rfl
        refine hQ.out _ _ q0 (fun hHeld => ?_)
        clear hQ
        try simp only [Act.put, List.setIfInBounds_toArray, List.set_cons_zero, List.set_cons_succ]
        refine takeL (i := 4) (v := ?_) rfl (by kernel_rfl) (by kernel_rfl) (by kernel_rfl) (fun _ _ _ h => h) (Or.inl ⟨by rfl, ?_⟩) (by assumption) ?_
        rotate_left
        focus (intro w hSw; go_simp; try with_reducible rfl)
        try simp only [Act.put, List.setIfInBounds_toArray, List.set_cons_zero, List.set_cons_succ]
        refine takeL (i := 5) (v := ?_) rfl (by kernel_rfl) (by kernel_rfl) (by kernel_rfl) (fun _ _ _ h => h) (Or.inl ⟨by rfl, ?_⟩) (by assumption) ?_
        rotate_left
        focus (intro w hSw; go_simp; try with_reducible rfl)
        try simp only [Act.put, List.setIfInBounds_toArray, List.set_cons_zero, List.set_cons_succ]
        refine takeL (i := 6) (v := ?_) rfl (by kernel_rfl) (by kernel_rfl) (by kernel_rfl) (fun _ _ _ h => h) (Or.inl ⟨by rfl, ?_⟩) (by assumption) ?_
        rotate_left
        focus (intro w hSw; go_simp; try with_reducible rfl)
        try simp only [Act.put, List.setIfInBounds_toArray, List.set_cons_zero, List.set_cons_succ]
        refine callL (i := 7) (by kernel_rfl) rfl (fun K hQ => ?_)
        go_simp
        generalize hx : World.alloc x1 _ = x2
        have HZ : Hid (x2.heap[x1.heap.size]? = some (.cells #[.string ⟨#[]⟩, .nilFunc] 81 (0, 0))) := by subst hx; exact alloc_at rfl
        have HM : Hid (MapB x2 mb shpT) := by subst hx; exact HM.out.keep ((Below.refl _ _).alloc (Nat.le_refl _) _)
        have hbw : w.heap.size < x1.heap.size := HS.out.sz
        have HS : Hid (PSt w x2 p) := by subst hx; exact HS.out.below ((Below.refl _ _).alloc (Nat.le_refl _) _)
        have hbx : x1.heap.size < x2.heap.size := by subst hx; simp
        have q0 := HS.out.k0
        clear hx
        refine hQ.out _ _ q0 (fun hHeld => ?_)
        clear hQ
        try simp only [Act.put, List.setIfInBounds_toArray, List.set_cons_zero, List.set_cons_succ]
        refine callL (i := 8) (by kernel_rfl) rfl (fun K hQ => ?_)
        have zz0 := cell_of_heap (j := 0) HZ.out
        have zz1 := cell_of_heap (j := 1) HZ.out
        simp at zz0 zz1
        have zzf : ∀ j, x2.frozen? ⟨x1.heap.size, j, none⟩ = false := fun j => unfrozen HZ.out
        go_simp
        have HX : Hid (PSt w ((x2.setCell ⟨x1.heap.size, 0, none⟩ (strV (shpN p.k))).setCell ⟨x1.heap.size, 1, none⟩ (.func (.func (shpFn p.k)) #[] #[])) p ∧ ((x2.setCell ⟨x1.heap.size, 0, none⟩ (strV (shpN p.k))).setCell ⟨x1.heap.size, 1, none⟩ (.func (.func (shpFn p.k)) #[] #[])).heap[x1.heap.size]? = some (.cells #[strV (shpN p.k), .func (.func (shpFn p.k)) #[] #[]] 81 (0, 0))) := ⟨HS.out.set hbw _ _, by simp [World.setCell, Array.getElem?_modify, HZ.out]⟩
        have q0 := HX.out.1.k0
        refine hQ.out _ _ q0 (fun hHeld => ?_)
        clear hQ
        try simp only [Act.put, List.setIfInBounds_toArray, List.set_cons_zero, List.set_cons_succ]
        refine takeL (i := 9) (v := ?_) rfl (by kernel_rfl) (by kernel_rfl) (by kernel_rfl) (fun _ _ _ h => h) (Or.inl ⟨by rfl, ?_⟩) (by assumption) ?_
        rotate_left
        focus (intro w hSw; go_simp; try with_reducible rfl)
        try simp only [Act.put, List.setIfInBounds_toArray, List.set_cons_zero, List.set_cons_succ]
        refine wpAnyH_done (by kernel_rfl) ?_ _
        go_wp2_with fail
        go_meet
        case rel => exact ⟨x1.heap.size, rfl, rfl, HX.out⟩
      · go_simp
        generalize hx : World.alloc x1 _ = x3
        have HZ : Hid (x3.heap[x1.heap.size]? = some (.cells #[.string ⟨#[]⟩, .nilFunc] 81 (0, 0))) := by subst hx; exact alloc_at rfl
        have HM : Hid (MapB x3 mb shpT) := by subst hx; exact HM.out.keep ((Below.refl _ _).alloc (Nat.le_refl _) _)
        have hbw : w.heap.size < x1.heap.size := HS.out.sz
        have HS : Hid (PSt w x3 p) := by subst hx; exact HS.out.below ((Below.refl _ _).alloc (Nat.le_refl _) _)
        have hbx : x1.heap.size < x3.heap.size := by subst hx; simp
        have q0 := HS.out.k0
        clear hx
        refine hQ.out _ _ q0 (fun hHeld => ?_)
        clear hQ
        try simp only [Act.put, List.setIfInBounds_toArray, List.set_cons_zero, List.set_cons_succ]
        refine callL (i := 3) (by kernel_rfl) rfl (fun K hQ => ?_)
        refine step_look_ok ?_ (.tmp 10) (.tmp 12) 82 3 81 ?_ Tryz.underlying82 Tryz.underlying3 shpZ shp_zero mb shpT ?_ HM.out p.k ?_ (.agg #[strV (shpN p.k), .func (.func (shpFn p.k)) #[] #[]]) (((shpT_get hk shpZ).1).trans (shpV_eq hk)) true (shpT_get hk shpZ).2 ?_
        · rfl
        · rfl
        · rfl
        · rfl
        refine hQ.out _ _ q0 (fun hHeld => ?_)
        clear hQ
        try simp only [Act.put, List.setIfInBounds_toArray, List.set_cons_zero, List.set_cons_succ]
        refine takeL (i := 4) (v := ?_) rfl (by kernel_rfl) (by kernel_rfl) (by kernel_rfl) (fun _ _ _ h => h) (Or.inl ⟨by rfl, ?_⟩) (by assumption) ?_
        rotate_left
        focus (intro w hSw; go_simp; try with_reducible rfl)
        try simp only [Act.put, List.setIfInBounds_toArray, List.set_cons_zero, List.set_cons_succ]
        refine takeL (i := 5) (v := ?_) rfl (by kernel_rfl) (by kernel_rfl) (by kernel_rfl) (fun _ _ _ h => h) (Or.inl ⟨by rfl, ?_⟩) (by assumption) ?_
        rotate_left
        focus (intro w hSw; go_simp; try with_reducible rfl)
        try simp only [Act.put, List.setIfInBounds_toArray, List.set_cons_zero, List.set_cons_succ]
        refine takeL (i := 6) (v := ?_) rfl (by kernel_rfl) (by kernel_rfl) (by kernel_rfl) (fun _ _ _ h => h) (Or.inl ⟨by rfl, ?_⟩) (by assumption) ?_
        rotate_left
        focus (intro w hSw; go_simp; try with_reducible rfl)
        try simp only [Act.put, List.setIfInBounds_toArray, List.set_cons_zero, List.set_cons_succ]
        refine callL (i := 8) (by kernel_rfl) rfl (fun K hQ => ?_)
        have zz0 := cell_of_heap (j := 0) HZ.out
        have zz1 := cell_of_heap (j := 1) HZ.out
        simp at zz0 zz1
        have zzf : ∀ j, x3.frozen? ⟨x1.heap.size, j, none⟩ = false := fun j => unfrozen HZ.out
        go_simp
        have HX : Hid (PSt w ((x3.setCell ⟨x1.heap.size, 0, none⟩ (strV (shpN p.k))).setCell ⟨x1.heap.size, 1, none⟩ (.func (.func (shpFn p.k)) #[] #[])) p ∧ ((x3.setCell ⟨x1.heap.size, 0, none⟩ (strV (shpN p.k))).setCell ⟨x1.heap.size, 1, none⟩ (.func (.func (shpFn p.k)) #[] #[])).heap[x1.heap.size]? = some (.cells #[strV (shpN p.k), .func (.func (shpFn p.k)) #[] #[]] 81 (0, 0))) := ⟨HS.out.set hbw _ _, by simp [World.setCell, Array.getElem?_modify, HZ.out]⟩
        have q0 := HX.out.1.k0
        refine hQ.out _ _ q0 (fun hHeld => ?_)
        clear hQ
        try simp only [Act.put, List.setIfInBounds_toArray, List.set_cons_zero, List.set_cons_succ]
        refine takeL (i := 9) (v := ?_) rfl (by kernel_rfl) (by kernel_rfl) (by kernel_rfl) (fun _ _ _ h => h) (Or.inl ⟨by rfl, ?_⟩) (by assumption) ?_
        rotate_left
        focus (intro w hSw; go_simp; try with_reducible rfl)
        try simp only [Act.put, List.setIfInBounds_toArray, List.set_cons_zero, List.set_cons_succ]
        refine wpAnyH_done (by kernel_rfl) ?_ _
        go_wp2_with fail
        go_meet
        case rel => exact ⟨x1.heap.size, rfl, rfl, HX.out⟩
    · go_simp
      generalize hx : World.alloc x0 _ = x4
      have HZ : Hid (x4.heap[x0.heap.size]? = some (.cells #[.string ⟨#[]⟩, .nilFunc] 81 (0, 0))) := by subst hx; exact alloc_at rfl
      have hbw : w.heap.size < x0.heap.size := HS.out.sz
      have HS : Hid (PSt w x4 p) := by subst hx; exact HS.out.below ((Below.refl _ _).alloc (Nat.le_refl _) _)
      have hbx : x0.heap.size < x4.heap.size := by subst hx; simp
      have q0 := HS.out.k0
      clear hx
      refine hQ.out _ _ q0 (fun hHeld => ?_)
      clear hQ
      try simp only [Act.put, List.setIfInBounds_toArray, List.set_cons_zero, List.set_cons_succ]
      refine callL (i := 0) (by kernel_rfl) rfl (fun K hQ => ?_)
      go_simp
      go_at_call 40
      with_reducible refine (shapes_any x4).mono ?_
      rintro e x5 ⟨mb, rfl, hmb, hM, hb⟩
      have HM := hid hM
      have HS := hid (HS.out.below hb)
      have HZ := hid ((hb.block _ (show x0.heap.size < x4.heap.size by omega)).trans HZ.out)
      have hbx : x0.heap.size < x5.heap.size := by have := hb.size; omega
      have q0 := HS.out.k0
      clear hM hb
      refine hQ.out _ _ q0 (fun hHeld => ?_)
      clear hQ
      try simp only [Act.put, List.setIfInBounds_toArray, List.set_cons_zero, List.set_cons_succ]
      refine callL (i := 3) (by kernel_rfl) rfl (fun K hQ => ?_)
      refine step_look_ok ?_ (.tmp 10) (.tmp 12) 82 3 81 ?_ Tryz.underlying82 Tryz.underlying3 shpZ shp_zero mb shpT ?_ HM.out p.k ?_ (.agg #[strV (shpN p.k), .func (.func (shpFn p.k)) #[] #[]]) (((shpT_get hk shpZ).1).trans (shpV_eq hk)) true (shpT_get hk shpZ).2 ?_
      · rfl
      · rfl
      · rfl
      · rfl
      refine hQ.out _ _ q0 (fun hHeld => ?_)
      clear hQ
      try simp only [Act.put, List.setIfInBounds_toArray, List.set_cons_zero, List.set_cons_succ]
      refine takeL (i := 4) (v := ?_) rfl (by kernel_rfl) (by kernel_rfl) (by kernel_rfl) (fun _ _ _ h => h) (Or.inl ⟨by rfl, ?_⟩) (by assumption) ?_
      rotate_left
      focus (intro w hSw; go_simp; try with_reducible rfl)
      try simp only [Act.put, List.setIfInBounds_toArray, List.set_cons_zero, List.set_cons_succ]
      refine takeL (i := 5) (v := ?_) rfl (by kernel_rfl) (by kernel_rfl) (by kernel_rfl) (fun _ _ _ h => h) (Or.inl ⟨by rfl, ?_⟩) (by assumption) ?_
      rotate_left
      focus (intro w hSw; go_simp; try with_reducible rfl)
      try simp only [Act.put, List.setIfInBounds_toArray, List.set_cons_zero, List.set_cons_succ]
      refine takeL (i := 6) (v := ?_) rfl (by kernel_rfl) (by kernel_rfl) (by kernel_rfl) (fun _ _ _ h => h) (Or.inl ⟨by rfl, ?_⟩) (by assumption) ?_
      rotate_left
      focus (intro w hSw; go_simp; try with_reducible rfl)
      try simp only [Act.put, List.setIfInBounds_toArray, List.set_cons_zero, List.set_cons_succ]
      refine callL (i := 8) (by kernel_rfl) rfl (fun K hQ => ?_)
      have zz0 := cell_of_heap (j := 0) HZ.out
      have zz1 := cell_of_heap (j := 1) HZ.out
      simp at zz0 zz1
      have zzf : ∀ j, x5.frozen? ⟨x0.heap.size, j, none⟩ = false := fun j => unfrozen HZ.out
      go_simp
      have HX : Hid (PSt w ((x5.setCell ⟨x0.heap.size, 0, none⟩ (strV (shpN p.k))).setCell ⟨x0.heap.size, 1, none⟩ (.func (.func (shpFn p.k)) #[] #[])) p ∧ ((x5.setCell ⟨x0.heap.size, 0, none⟩ (strV (shpN p.k))).setCell ⟨x0.heap.size, 1, none⟩ (.func (.func (shpFn p.k)) #[] #[])).heap[x0.heap.size]? = some (.cells #[strV (shpN p.k), .func (.func (shpFn p.k)) #[] #[]] 81 (0, 0))) := ⟨HS.out.set hbw _ _, by simp [World.setCell, Array.getElem?_modify, HZ.out]⟩
      have q0 := HX.out.1.k0
      refine hQ.out _ _ q0 (fun hHeld => ?_)
      clear hQ
      try simp only [Act.put, List.setIfInBounds_toArray, List.set_cons_zero, List.set_cons_succ]
      refine takeL (i := 9) (v := ?_) rfl (by kernel_rfl) (by kernel_rfl) (by kernel_rfl) (fun _ _ _ h => h) (Or.inl ⟨by rfl, ?_⟩) (by assumption) ?_
      rotate_left
      focus (intro w hSw; go_simp; try with_reducible rfl)
      try simp only [Act.put, List.setIfInBounds_toArray, List.set_cons_zero, List.set_cons_succ]
      refine wpAnyH_done (by kernel_rfl) ?_ _
      go_wp2_with fail
      go_meet
      case rel => exact ⟨x0.heap.size, rfl, rfl, HX.out⟩
  case rest =>
    obtain ⟨bs, rfl, rfl, hS, hbs⟩ := hcut
    have HS := hid hS
    have Hbs := hid hbs
    have q0 := hS.k0
    have hsz := hS.sz
    clear hS hbs
    go_upto_region 5 with fail
    generalize hW : World.alloc wc _ = W5
    have hB5 : Hid (W5.heap[wc.heap.size]? = some (prO (putN p.k []))) := by rw [putN_nil]; subst hW; exact alloc_at rfl
    have hS5 : Hid (PSt w W5 p) := by subst hW; exact HS.out.below ((Below.refl _ _).alloc (Nat.le_refl _) _)
    have hb5 : W5.heap[bs]? = some (.cells #[strV (shpN p.k), .func (.func (shpFn p.k)) #[] #[]] 81 (0, 0)) := by subst hW; exact (Below.heap_alloc _ _ _ (Array.getElem?_eq_some_iff.1 Hbs.out).1).trans Hbs.out
    have hz5 : wc.heap.size < W5.heap.size := (prO_cells hB5.out).1
    have y0 := cell_of_heap (j := 0) hb5
    have y1 := cell_of_heap (j := 1) hb5
    simp at y0 y1
    have Hb5 := hid hb5
    have hwq : w.heap.size < wc.heap.size := hsz
    clear hW HS Hbs hb5 q0 hsz
    generalize wc.heap.size = bq at *
    have hnums := hid (fun B o w => nums_any hk B o w)
    have hfn := shpFn_or p.k
    generalize shpFn p.k = fn at *
    rcases hfn with rfl | rfl | rfl | rfl | rfl
    all_goals
      go_wp2_with fail
      refine (hnums.out _ _ _).mono ?_
      rintro e w6 ⟨a6, rfl, hpt6, hb6, -⟩
      have hS6 := hid (hS5.out.below hb6)
      have hB6 := hid ((hb6.block _ hz5).trans hB5.out)
      have hz6 : bq < w6.heap.size := (prO_cells hB6.out).1
      have hb6' := (hb6.block _ (Array.getElem?_eq_some_iff.1 Hb5.out).1).trans Hb5.out
      have y0 := cell_of_heap (j := 0) hb6'
      have y1 := cell_of_heap (j := 1) hb6'
      simp at y0 y1
      have Hpt6 := hid hpt6
      have hs6 := hb6.size
      clear hpt6 hb6 hb6' hS5 hB5 Hb5
      go_wp2_with fail
      refine (hnums.out _ _ _).mono ?_
      rintro e w7 ⟨a7, rfl, hpt7, hb7, -⟩
      have hS7 := hid (hS6.out.below hb7)
      have hB7 := hid ((hb7.block _ hz6).trans hB6.out)
      have hz7 : bq < w7.heap.size := (prO_cells hB7.out).1
      have Hpt7 := hid hpt7
      have Hb7 := hid hb7
      have hnl := hid (nums_len p)
      have hn3 := offs_len p.k
      obtain ⟨n, hn⟩ : ∃ n, n = (offs p.k).length := ⟨_, rfl⟩
      rw [← hn] at hn3 ⊢
      have Hn := hid hn
      clear hpt7 hb7 hS6 hB6 y0 y1 hn
      go_wp2_with fail
      go_loopw [28] (fun i wr => ∃ j : Nat, j ≤ n ∧ i = .int .i64 j ∧ Hid (PSt w wr p ∧ wr.heap[bq]? = some (prO (putN p.k ((numsP p).take j))) ∧ (∀ b o, b < w7.heap.size → b ≠ bq → wr.cell? ⟨b, o, none⟩ = w7.cell? ⟨b, o, none⟩))) (fun i _ => n - (intOf i).toNat)
      case atStart => exact ⟨0, Nat.zero_le _, rfl, hS7.out, hB7.out, fun _ _ _ _ => rfl⟩
      case round =>
        obtain ⟨j, hj, rfl, hR⟩ := hrel
        by_cases hlt : j < n
        · have hjo : j < (offs p.k).length := by rw [← Hn.out]; exact hlt
          have hoj := offs_at hk hjo
          obtain ⟨b7, e7, b71, b72, c7⟩ := Hpt7.out j hjo
          obtain ⟨b6, e6, b61, b62, c6⟩ := Hpt6.out j hjo
          subst e7 e6
          have hjn : j < (numsP p).length := by rw [hnl.out]; exact hjo
          have hxv : (numsP p)[j] = p.get (offs p.k)[j] := by simp [numsP]
          have hxb := Hok.out.2.1 _ (List.getElem_mem hjn)
          have hcp := prO_get hR.out.1.hp hoj
          rw [← hxv] at hcp
          have hput := fun (x : Int) => putN_snoc (k := p.k) (l := (numsP p).take j) (x := x) (by rw [List.length_take]; omega)
          simp only [List.length_take, Nat.min_eq_left (Nat.le_of_lt hjn)] at hput
          have htk : (numsP p).take (j + 1) = (numsP p).take j ++ [(numsP p)[j]] := List.take_succ_eq_append_getElem hjn
          rw [Nat.zero_add] at c7 c6
          have hc7 : wr.cell? ⟨b7, j, none⟩ = some (.pointer (some ⟨w.heap.size, (offs p.k)[j], none⟩)) := (hR.out.2.2 b7 j b72 (by omega)).trans c7
          have hc6 : wr.cell? ⟨b6, j, none⟩ = some (.pointer (some ⟨bq, (offs p.k)[j], none⟩)) := (hR.out.2.2 b6 j (by have := Hb7.out.size; omega) (by omega)).trans ((Hb7.out.cell (p := ⟨b6, j, none⟩) b62).trans c6)
          have hR2 : Hid (∀ (x : Int), x = (numsP p)[j] → PSt w (wr.setCell ⟨bq, (offs p.k)[j], none⟩ (.int .i64 x)).drew p ∧ (wr.setCell ⟨bq, (offs p.k)[j], none⟩ (.int .i64 x)).drew.heap[bq]? = some (prO (putN p.k ((numsP p).take (j + 1)))) ∧ (∀ b o, b < w7.heap.size → b ≠ bq → (wr.setCell ⟨bq, (offs p.k)[j], none⟩ (.int .i64 x)).drew.cell? ⟨b, o, none⟩ = w7.cell? ⟨b, o, none⟩)) := by
            rintro x rfl
            refine ⟨⟨(hR.out.1.bl.setCell (by show w.heap.size ≤ bq; omega) _).drew, ?_⟩, ?_, fun b o hb hne => ?_⟩
            · show (World.setCell _ _ _).heap[_]? = _
              rw [Below.heap_setCell _ _ _ _ (by simp; omega)]
              exact hR.out.1.hp
            · show (World.setCell _ _ _).heap[_]? = _
              rw [htk, hput]
              exact prO_put hoj hR.out.2.1 _
            · show (World.setCell _ _ _).cell? _ = _
              rw [World.cell?_setCell_other _ _ _ _ (by intro e; injection e; omega)]
              exact hR.out.2.2 b o hb hne
          obtain ⟨z9, zf, -⟩ := prO_cells hR.out.2.1
          have hcq := prO_get hR.out.2.1 hoj
          have zf := zf (offs p.k)[j]
          have x0 : (numsP p)[j] = (numsP p)[j] := rfl
          generalize hx : (numsP p)[j] = x at *
          have hx := hid hx
          generalize (offs p.k)[j] = o at *
          generalize (putN p.k (List.take j (numsP p))).get o = vo at hcq
          have xa : (0 : Int) ≤ x := hxb.1
          have xb : x ≤ 999999 := hxb.2
          have dx : decide (x < 0) = false := decide_eq_false (by omega)
          have dy : decide (999999 < x) = false := decide_eq_false (by omega)
          have j0 : (0 : Int) ≤ j := by omega
          have j1 : (j : Int) < n := by omega
          have hR3 := hid (hR2.out x rfl)
          clear hR hR2 c6 c7 hxv hput htk hxb x0
          go_wp2_with fail
          have w0 : wr.cell? ⟨b6, j, none⟩ = some (.pointer (some ⟨bq, o, none⟩)) := hc6
          go_still_tail 8, (by kernel_rfl)
          change wpList _ _ _ _ _ wr.drew
          have w1 : wr.drew.cell? ⟨bq, o, none⟩ = some (.int .i64 vo) := hcq
          have w2 : wr.drew.frozen? ⟨bq, o, none⟩ = false := zf
          go_wp2_with fail
          go_roundw
          case rel => exact ⟨j + 1, by omega, by go_num, hR3.out⟩
          case measure => simp [intOf]; omega
        · obtain rfl : j = n := by omega
          have hall : (numsP p).take j = numsP p := by rw [List.take_of_length_le (by rw [hnl.out, ← Hn.out]; omega)]
          have hq2 := hR.out.2.1
          rw [hall] at hq2
          have hpp : putN p.k (numsP p) = p := Hok.out.2.2.symm
          rw [hpp] at hq2
          obtain ⟨-, -, a0, a1, a2, a3⟩ := prO_cells hR.out.1.hp
          obtain ⟨-, -, c0, c1, c2, c3⟩ := prO_cells hq2
          have hfin := hid hR.out.1.bl
          clear hR hall hpp hq2
          go_wp2_with fail
          go_ret
          exact ⟨ret_bool (by simp), hfin.out⟩
end Go.Proofs.YtogopcejapklgaaGreatDoor
