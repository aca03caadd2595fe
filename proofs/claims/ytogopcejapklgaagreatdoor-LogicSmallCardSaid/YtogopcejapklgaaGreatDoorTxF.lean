/- right and Print of the formula of zeros. -/
import Derived.Test.YtogopcejapklgaaGreatDoorTxE
namespace Go.Proofs.YtogopcejapklgaaGreatDoor
open Go Go.RowKit

set_option maxRecDepth 100000 in
set_option maxHeartbeats 8000000 in
theorem right_zero (C mb : Nat) (w : World) (hC : CBox w C mb 0) :
    Calls Tryz.prog 36 #[.pointer (some ⟨C, 0, none⟩), .agg #[.int .i64 0, .int .i64 0, .int .i64 0, .int .i64 0, .int .i64 0, .slice none 0 0], .int .i64 20] w
    fun e w' => e = .returned (.bool false) ∧ w.grownBy w' (some C) := by
  have hlC := hC.sz
  have HC := hid hC
  obtain ⟨q9, qx, qf⟩ := hC.cells
  have qf := qf 0
  clear hC
  go_enter Tryz.func36, Tryz.ntmps36
  go_upto_region 1 with fail
  generalize hW : World.alloc _ _ = W0
  obtain ⟨c, hc0⟩ : ∃ c : Int, c = 0 := ⟨0, rfl⟩
  have hS0 : Hid (RSt w W0 C mb c 19 0 0 0 0 0 (.slice none 0 0)) := by
    subst hW hc0
    refine ⟨grown_alloc (grown_alloc (grown_alloc (grown_refl _ _) _) _) _, ((HC.out.grown (World.grownBy_alloc _ _ none) (fun k e => by cases e)).grown (World.grownBy_alloc _ _ none) (fun k e => by cases e)).grown (World.grownBy_alloc _ _ none) (fun k e => by cases e), by go_simp, ?_, by go_simp, by simp, hlC⟩
    exact (Below.heap_alloc _ _ _ (by simp)).trans (alloc_at (by simp))
  clear hW q9 qx qf
  obtain ⟨q9, qx, qf⟩ := hS0.out.cb.cells
  have qf := qf 0
  rw [hc0] at q9
  have n0 := hS0.out.n0
  go_upto_region 2 with fail
  generalize hW : World.setCell W0 _ _ = W1
  obtain ⟨d, hd⟩ : ∃ d : Nat, d = 19 := ⟨19, rfl⟩
  obtain ⟨k, hk0⟩ : ∃ k : Int, k = 0 := ⟨0, rfl⟩
  obtain ⟨pk, hpk⟩ : ∃ z : Int, z = 0 := ⟨0, rfl⟩
  obtain ⟨pt, hpt⟩ : ∃ z : Int, z = 0 := ⟨0, rfl⟩
  obtain ⟨pa, hpa⟩ : ∃ z : Int, z = 0 := ⟨0, rfl⟩
  obtain ⟨pn, hpn⟩ : ∃ z : Int, z = 0 := ⟨0, rfl⟩
  obtain ⟨v, hv⟩ : ∃ v, v = Value.slice none 0 0 := ⟨_, rfl⟩
  obtain ⟨c1, hc1⟩ : ∃ c1 : Int, c1 = 1 := ⟨1, rfl⟩
  have HS : Hid (RSt w W1 C mb c1 d k pk pt pa pn v) := by
    subst hW hd hk0 hpk hpt hpa hpn hv hc1
    exact hS0.out.next (grown_set _ _ _ _) (fun k e => .inl (Option.some.inj e).symm) (hS0.out.cb.more _)
  clear hW q9 qx qf n0 hS0 HC
  have n0 := HS.out.n0
  have n2 := HS.out.n2
  obtain ⟨q9, qx, qf⟩ := HS.out.cb.cells
  obtain ⟨z0, z1, z2, z3, z4, z5⟩ := HS.out.six
  have hdd : ((d : Int) + 1) = 20 := by rw [hd]; rfl
  rw [hdd] at n2
  rw [hk0] at z0
  rw [hc1] at q9
  have hget : Hid (mget frmZ k frmT = frmZ ∧ mhas k frmT = false) := by subst hk0; exact hid ⟨rfl, rfl⟩
  have Hz := hid (And.intro hk0 (And.intro hpk (And.intro hpt (And.intro hpa (And.intro hpn hv)))))
  clear hd hk0 hpk hpt hpa hpn hv hc1 hdd hc0
  go_upto_region 6 with fail
  clear n0 n2 q9 qx qf z0 z1 z2 z3 z4 z5
  go_cut [7, 8] from 38 to 48 (fun t7 t8 wx => ∃ bs : Nat, t7 = .pointer (some ⟨bs, 0, none⟩) ∧ t8 = .bool false ∧ RSt w wx C mb c1 d k pk pt pa pn v ∧ wx.heap[bs]? = some (.cells #[.string ⟨#[]⟩, .int .i64 0] 89 (0, 0)))
  case first =>
    obtain ⟨q0, q1, q2⟩ := HS.out.drew.held
    have HS := hid HS.out.drew
    refine wp_region_held_drew (S := fun W => W.cell? ⟨w.heap.size, 0, none⟩ = some (.pointer (some ⟨C, 0, none⟩)) ∧ W.cell? ⟨C, 1, none⟩ = some (.map (some mb)) ∧ W.cell? ⟨w.heap.size + 1, 0, none⟩ = some (.int .i64 k)) (by kernel_rfl) ⟨q0, q1, q2⟩ (fun hHeld => ?_)
    generalize World.drew W1 = x0 at HS q0 q1 q2 hHeld ⊢
    refine takeL (i := 0) (v := ?_) rfl (by kernel_rfl) (by kernel_rfl) (by kernel_rfl) (fun _ _ _ h => h) (Or.inl ⟨by rfl, ?_⟩) (by assumption) ?_
    rotate_left
    focus (intro w hSw; go_simp; try with_reducible rfl)
    try simp only [Act.put, List.setIfInBounds_toArray, List.set_cons_zero, List.set_cons_succ]
    refine takeL (i := 1) (v := ?_) rfl (by kernel_rfl) (by kernel_rfl) (by kernel_rfl) (fun _ _ _ h => h) (Or.inl ⟨by rfl, ?_⟩) (by assumption) ?_
    rotate_left
    focus (intro w hSw; go_simp; try with_reducible rfl)
    try simp only [Act.put, List.setIfInBounds_toArray, List.set_cons_zero, List.set_cons_succ]
    refine takeL (i := 2) (v := ?_) rfl (by kernel_rfl) (by kernel_rfl) (by kernel_rfl) (fun _ _ _ h => h) (Or.inl ⟨by rfl, ?_⟩) (by assumption) ?_
    rotate_left
    focus (intro w hSw; go_simp; try with_reducible rfl)
    try simp only [Act.put, List.setIfInBounds_toArray, List.set_cons_zero, List.set_cons_succ]
    refine takeL (i := 3) (v := ?_) rfl (by kernel_rfl) (by kernel_rfl) (by kernel_rfl) (fun _ _ _ h => h) (Or.inl ⟨by rfl, ?_⟩) (by assumption) ?_
    rotate_left
    focus (intro w hSw; go_simp; try with_reducible rfl)
    try simp only [Act.put, List.setIfInBounds_toArray, List.set_cons_zero, List.set_cons_succ]
    refine takeL (i := 4) (v := ?_) rfl (by kernel_rfl) (by kernel_rfl) (by kernel_rfl) (fun _ _ _ h => h) (Or.inl ⟨by rfl, ?_⟩) (by assumption) ?_
    rotate_left
    focus (intro w hSw; go_simp; try with_reducible rfl)
    try simp only [Act.put, List.setIfInBounds_toArray, List.set_cons_zero, List.set_cons_succ]
    refine takeL (i := 5) (v := ?_) rfl (by kernel_rfl) (by kernel_rfl) (by kernel_rfl) (fun _ _ _ h => h) (Or.inl ⟨by rfl, ?_⟩) (by assumption) ?_
    rotate_left
    focus (intro w hSw; go_simp; try with_reducible rfl)
    try simp only [Act.put, List.setIfInBounds_toArray, List.set_cons_zero, List.set_cons_succ]
    refine callL2 (i := 6) (j := 10) (by kernel_rfl) rfl rfl (fun K hQ => ?_) (fun K hQ => ?_)
    · refine step_look_ok ?_ (.tmp 42) (.tmp 44) 70 3 89 ?_ Tryz.underlying70 Tryz.underlying3 frmZ frm_zero mb frmT ?_ HS.out.cb.mp k ?_ (.agg #[.string ⟨#[]⟩, .int .i64 0]) hget.out.1 false hget.out.2 ?_
      · rfl
      · rfl
      · rfl
      · rfl
      refine hQ.out _ _ ⟨q0, q1, q2⟩ (fun hHeld => ?_)
      clear hQ
      try simp only [Act.put, List.setIfInBounds_toArray, List.set_cons_zero, List.set_cons_succ]
      refine takeL (i := 7) (v := ?_) rfl (by kernel_rfl) (by kernel_rfl) (by kernel_rfl) (fun _ _ _ h => h) (Or.inl ⟨by rfl, ?_⟩) (by assumption) ?_
      rotate_left
      focus (intro w hSw; go_simp; try with_reducible rfl)
      try simp only [Act.put, List.setIfInBounds_toArray, List.set_cons_zero, List.set_cons_succ]
      refine takeL (i := 8) (v := ?_) rfl (by kernel_rfl) (by kernel_rfl) (by kernel_rfl) (fun _ _ _ h => h) (Or.inl ⟨by rfl, ?_⟩) (by assumption) ?_
      rotate_left
      focus (intro w hSw; go_simp; try with_reducible rfl)
      try simp only [Act.put, List.setIfInBounds_toArray, List.set_cons_zero, List.set_cons_succ]
      refine takeL (i := 9) (v := ?_) rfl (by kernel_rfl) (by kernel_rfl) (by kernel_rfl) (fun _ _ _ h => h) (Or.inl ⟨by rfl, ?_⟩) (by assumption) ?_
      rotate_left
      focus (intro w hSw; go_simp; try with_reducible rfl)
      try simp only [Act.put, List.setIfInBounds_toArray, List.set_cons_zero, List.set_cons_succ]
      refine callL (i := 10) (by kernel_rfl) rfl (fun K hQ => ?_)
      go_simp
      generalize hx : World.alloc x0 _ = x1
      have HZ : Hid (x1.heap[x0.heap.size]? = some (.cells #[.string ⟨#[]⟩, .int .i64 0] 89 (0, 0))) := by subst hx; exact alloc_at rfl
      have hbw : w.heap.size + 1 + 1 < x0.heap.size := HS.out.sz
      have HS : Hid (RSt w x1 C mb c1 d k pk pt pa pn v) := by subst hx; exact HS.out.grown (World.grownBy_alloc _ _ none) (fun k e => by cases e)
      obtain ⟨q0, q1, q2⟩ := HS.out.held
      clear hx
      refine hQ.out _ _ ⟨q0, q1, q2⟩ (fun hHeld => ?_)
      clear hQ
      try simp only [Act.put, List.setIfInBounds_toArray, List.set_cons_zero, List.set_cons_succ]
      refine callL (i := 11) (by kernel_rfl) rfl (fun K hQ => ?_)
      have zz0 := cell_of_heap (j := 0) HZ.out
      have zz1 := cell_of_heap (j := 1) HZ.out
      simp at zz0 zz1
      have zzf : ∀ j, x1.frozen? ⟨x0.heap.size, j, none⟩ = false := fun j => unfrozen HZ.out
      go_simp
      have HX : Hid (RSt w ((x1.setCell ⟨x0.heap.size, 0, none⟩ (.string ⟨#[]⟩)).setCell ⟨x0.heap.size, 1, none⟩ (.int .i64 0)) C mb c1 d k pk pt pa pn v ∧ ((x1.setCell ⟨x0.heap.size, 0, none⟩ (.string ⟨#[]⟩)).setCell ⟨x0.heap.size, 1, none⟩ (.int .i64 0)).heap[x0.heap.size]? = some (.cells #[.string ⟨#[]⟩, .int .i64 0] 89 (0, 0))) := ⟨(HS.out.grown (grown_set _ _ _ _) (fun k e => by cases e; exact hbw)).grown (grown_set _ _ _ _) (fun k e => by cases e; exact hbw), by simp [World.setCell, Array.getElem?_modify, HZ.out]⟩
      obtain ⟨q0, q1, q2⟩ := HX.out.1.held
      refine hQ.out _ _ ⟨q0, q1, q2⟩ (fun hHeld => ?_)
      clear hQ
      try simp only [Act.put, List.setIfInBounds_toArray, List.set_cons_zero, List.set_cons_succ]
      refine takeL (i := 12) (v := ?_) rfl (by kernel_rfl) (by kernel_rfl) (by kernel_rfl) (fun _ _ _ h => h) (Or.inl ⟨by rfl, ?_⟩) (by assumption) ?_
      rotate_left
      focus (intro w hSw; go_simp; try with_reducible rfl)
      try simp only [Act.put, List.setIfInBounds_toArray, List.set_cons_zero, List.set_cons_succ]
      refine wpAnyH_done (by kernel_rfl) ?_ _
      go_wp2_with fail
      go_meet
      case rel => exact ⟨x0.heap.size, rfl, rfl, HX.out⟩
    · go_simp
      generalize hx : World.alloc x0 _ = x2
      have HZ : Hid (x2.heap[x0.heap.size]? = some (.cells #[.string ⟨#[]⟩, .int .i64 0] 89 (0, 0))) := by subst hx; exact alloc_at rfl
      have hbw : w.heap.size + 1 + 1 < x0.heap.size := HS.out.sz
      have HS : Hid (RSt w x2 C mb c1 d k pk pt pa pn v) := by subst hx; exact HS.out.grown (World.grownBy_alloc _ _ none) (fun k e => by cases e)
      obtain ⟨q0, q1, q2⟩ := HS.out.held
      clear hx
      refine hQ.out _ _ ⟨q0, q1, q2⟩ (fun hHeld => ?_)
      clear hQ
      try simp only [Act.put, List.setIfInBounds_toArray, List.set_cons_zero, List.set_cons_succ]
      refine callL (i := 6) (by kernel_rfl) rfl (fun K hQ => ?_)
      refine step_look_ok ?_ (.tmp 42) (.tmp 44) 70 3 89 ?_ Tryz.underlying70 Tryz.underlying3 frmZ frm_zero mb frmT ?_ HS.out.cb.mp k ?_ (.agg #[.string ⟨#[]⟩, .int .i64 0]) hget.out.1 false hget.out.2 ?_
      · rfl
      · rfl
      · rfl
      · rfl
      refine hQ.out _ _ ⟨q0, q1, q2⟩ (fun hHeld => ?_)
      clear hQ
      try simp only [Act.put, List.setIfInBounds_toArray, List.set_cons_zero, List.set_cons_succ]
      refine takeL (i := 7) (v := ?_) rfl (by kernel_rfl) (by kernel_rfl) (by kernel_rfl) (fun _ _ _ h => h) (Or.inl ⟨by rfl, ?_⟩) (by assumption) ?_
      rotate_left
      focus (intro w hSw; go_simp; try with_reducible rfl)
      try simp only [Act.put, List.setIfInBounds_toArray, List.set_cons_zero, List.set_cons_succ]
      refine takeL (i := 8) (v := ?_) rfl (by kernel_rfl) (by kernel_rfl) (by kernel_rfl) (fun _ _ _ h => h) (Or.inl ⟨by rfl, ?_⟩) (by assumption) ?_
      rotate_left
      focus (intro w hSw; go_simp; try with_reducible rfl)
      try simp only [Act.put, List.setIfInBounds_toArray, List.set_cons_zero, List.set_cons_succ]
      refine takeL (i := 9) (v := ?_) rfl (by kernel_rfl) (by kernel_rfl) (by kernel_rfl) (fun _ _ _ h => h) (Or.inl ⟨by rfl, ?_⟩) (by assumption) ?_
      rotate_left
      focus (intro w hSw; go_simp; try with_reducible rfl)
      try simp only [Act.put, List.setIfInBounds_toArray, List.set_cons_zero, List.set_cons_succ]
      refine callL (i := 11) (by kernel_rfl) rfl (fun K hQ => ?_)
      have zz0 := cell_of_heap (j := 0) HZ.out
      have zz1 := cell_of_heap (j := 1) HZ.out
      simp at zz0 zz1
      have zzf : ∀ j, x2.frozen? ⟨x0.heap.size, j, none⟩ = false := fun j => unfrozen HZ.out
      go_simp
      have HX : Hid (RSt w ((x2.setCell ⟨x0.heap.size, 0, none⟩ (.string ⟨#[]⟩)).setCell ⟨x0.heap.size, 1, none⟩ (.int .i64 0)) C mb c1 d k pk pt pa pn v ∧ ((x2.setCell ⟨x0.heap.size, 0, none⟩ (.string ⟨#[]⟩)).setCell ⟨x0.heap.size, 1, none⟩ (.int .i64 0)).heap[x0.heap.size]? = some (.cells #[.string ⟨#[]⟩, .int .i64 0] 89 (0, 0))) := ⟨(HS.out.grown (grown_set _ _ _ _) (fun k e => by cases e; exact hbw)).grown (grown_set _ _ _ _) (fun k e => by cases e; exact hbw), by simp [World.setCell, Array.getElem?_modify, HZ.out]⟩
      obtain ⟨q0, q1, q2⟩ := HX.out.1.held
      refine hQ.out _ _ ⟨q0, q1, q2⟩ (fun hHeld => ?_)
      clear hQ
      try simp only [Act.put, List.setIfInBounds_toArray, List.set_cons_zero, List.set_cons_succ]
      refine takeL (i := 12) (v := ?_) rfl (by kernel_rfl) (by kernel_rfl) (by kernel_rfl) (fun _ _ _ h => h) (Or.inl ⟨by rfl, ?_⟩) (by assumption) ?_
      rotate_left
      focus (intro w hSw; go_simp; try with_reducible rfl)
      try simp only [Act.put, List.setIfInBounds_toArray, List.set_cons_zero, List.set_cons_succ]
      refine wpAnyH_done (by kernel_rfl) ?_ _
      go_wp2_with fail
      go_meet
      case rel => exact ⟨x0.heap.size, rfl, rfl, HX.out⟩
  case rest =>
    obtain ⟨bs, rfl, rfl, hS, hbs⟩ := hcut
    obtain ⟨rfl, rfl, rfl, rfl, rfl, rfl⟩ := Hz.out
    obtain ⟨z0, z1, z2, z3, z4, z5⟩ := hS.six
    have n0 := hS.n0
    have y0 := cell_of_heap (j := 0) hbs
    have y1 := cell_of_heap (j := 1) hbs
    simp at y0 y1
    have hmf : ∀ (fn : Fn) (first cap : Array Value) (w : World), (Instr.makeFunc fn first cap).run Tryz.prog w = .ok (.func fn first cap) w := fun _ _ _ _ => rfl
    have HSc := hid hS
    clear hS hbs
    go_wp2_with fail
    go_ret
    exact ⟨rfl, HSc.out.gr⟩
end Go.Proofs.YtogopcejapklgaaGreatDoor
