/- The program's text of an atom. -/
import Derived.Test.YtogopcejapklgaaGreatDoorLpB
import Derived.Test.YtogopcejapklgaaGreatDoorTxA
import Derived.Laws.EntriesVeiled
namespace Go.Proofs.YtogopcejapklgaaGreatDoor
open Go Go.RowKit

/-- The formula's box; nothing that was there has turned. -/
structure TSt (w x : World) (k : Int) (p : Pr) (v : Value) : Prop where
  bl : Below w.heap.size w x
  hp : x.heap[w.heap.size]? = some (fmO k p v)
namespace TSt
variable {w x y : World} {k : Int} {p : Pr} {v : Value}
theorem six (h : TSt w x k p v) : x.cell? ⟨w.heap.size, 0, none⟩ = some (.int .i64 k) ∧ x.cell? ⟨w.heap.size, 1, none⟩ = some (.int .i64 p.k) ∧ x.cell? ⟨w.heap.size, 2, none⟩ = some (.int .i64 p.t) ∧ x.cell? ⟨w.heap.size, 3, none⟩ = some (.int .i64 p.a) ∧ x.cell? ⟨w.heap.size, 4, none⟩ = some (.int .i64 p.n) ∧ x.cell? ⟨w.heap.size, 5, none⟩ = some v := by
  refine ⟨?_, ?_, ?_, ?_, ?_, ?_⟩
  all_goals (rw [cell_of_heap h.hp]; rfl)
theorem k0 (h : TSt w x k p v) : x.cell? ⟨w.heap.size, 0, none⟩ = some (.int .i64 k) := h.six.1
theorem k1 (h : TSt w x k p v) : x.cell? ⟨w.heap.size, 1, none⟩ = some (.int .i64 p.k) := h.six.2.1
theorem get (h : TSt w x k p v) {i : Nat} (hi : 1 ≤ i ∧ i ≤ 3) : x.cell? ⟨w.heap.size, 1 + i, none⟩ = some (.int .i64 (p.get i)) := by
  obtain ⟨-, -, h2, h3, h4, -⟩ := h.six
  have : i = 1 ∨ i = 2 ∨ i = 3 := by omega
  rcases this with rfl | rfl | rfl
  · exact h2
  · exact h3
  · exact h4
theorem sz (h : TSt w x k p v) : w.heap.size < x.heap.size := (Array.getElem?_eq_some_iff.1 h.hp).1
theorem below (h : TSt w x k p v) (hb : Below x.heap.size x y) : TSt w y k p v := ⟨h.bl.trans (hb.mono h.bl.size), (hb.block _ h.sz).trans h.hp⟩
theorem drew (h : TSt w x k p v) : TSt w x.drew k p v := h.below (Below.refl _ _).drew
theorem set (h : TSt w x k p v) {b : Nat} (hne : w.heap.size < b) (u z : Value) : TSt w ((x.setCell ⟨b, 0, none⟩ u).setCell ⟨b, 1, none⟩ z) k p v :=
  ⟨(h.bl.setCell (by show w.heap.size ≤ b; omega) _).setCell (by show w.heap.size ≤ b; omega) _, by rw [Below.heap_setCell _ _ _ _ (by simp; omega), Below.heap_setCell _ _ _ _ (by simp; omega)]; exact h.hp⟩
end TSt
theorem shpN_len {k : Int} (hk : isShp k) : (shpN k).length ≤ 1000 := by rcases hk with rfl | rfl | rfl | rfl | rfl | rfl <;> decide
theorem join_le (l : List (List UInt8)) : (Lib.join l [44, 32]).length ≤ (brkL l).length := by
  cases l with
  | nil => simp [Lib.join, brkL]
  | cons x l => rw [brkL_join]; simp; omega
theorem join_txt {d : Nat} {f : Fm} (h : okD d f) (hs : f.size ≤ 200) (l : List (List UInt8)) (nm : List UInt8) (e : txtF f = nm ++ brkL l) : (Lib.join l [44, 32]).length ≤ 1000000000 := by
  have h1 := txt_len f h
  rw [e, List.length_append] at h1
  have := join_le l
  omega
theorem join_nums {p : Pr} (hok : okP p) : (Lib.join ((numsP p).map decL) [44, 32]).length ≤ 1000000000 :=
  join_txt (d := 1) (f := .mk 3 p []) (by rw [okD_succ]; exact ⟨.inl ⟨rfl, hok, rfl⟩, trivial⟩) (by rw [Fm.size_eq, Fm.sizeL_nil]; omega) _ (shpN p.k) (by rw [txtF_eq, if_pos rfl])
theorem itoaV (W : World) (hV : Vars W) (n : Int) (h0 : 0 ≤ n) (h1 : n ≤ 1000000) : Calls Tryz.prog 41 #[.int .i64 n] W fun e w' => e = .returned (strV (decL n)) ∧ Below W.heap.size W w' := itoa_any n h0 h1 W hV.tab

set_option maxRecDepth 100000 in
set_option maxHeartbeats 8000000 in
theorem text_atom (p : Pr) (hok : okP p) (v : Value) (w : World) (hV : Vars w) : Calls Tryz.prog 23 #[.agg #[.int .i64 3, .int .i64 p.k, .int .i64 p.t, .int .i64 p.a, .int .i64 p.n, v]] w fun e w' => e = .returned (strV (txtF (.mk 3 p []))) ∧ Below w.heap.size w w' := by
  have hk : isShp p.k := hok.1
  have Hok := hid hok
  have HV := hid hV
  have Hlen : Hid ((Lib.join ((numsP p).map decL) [44, 32]).length ≤ 1000000000) := hid (join_nums hok)
  clear hok hV
  go_enter Tryz.func23, Tryz.ntmps23
  go_upto_region 3 with fail
  generalize hW : World.alloc w _ = W0
  obtain ⟨k, hk3⟩ : ∃ k : Int, k = 3 := ⟨3, rfl⟩
  have HS : Hid (TSt w W0 k p v) := by subst hW hk3; exact ⟨(Below.refl _ _).alloc (Nat.le_refl _) _, alloc_at rfl⟩
  clear hW hk3
  go_cut [4] from 12 to 17 (fun t4 wx => ∃ bs : Nat, t4 = .pointer (some ⟨bs, 0, none⟩) ∧ TSt w wx k p v ∧ wx.heap[bs]? = some (.cells #[strV (shpN p.k), .func (.func (shpFn p.k)) #[] #[]] 81 (0, 0)))
  case first =>
    have q0 : W0.drew.cell? ⟨w.heap.size, 1, none⟩ = some (.int .i64 p.k) := HS.out.k1
    have HS := hid HS.out.drew
    refine wp_region_held_drew (S := fun W => W.cell? ⟨w.heap.size, 1, none⟩ = some (.int .i64 p.k)) (by kernel_rfl) q0 (fun hHeld => ?_)
    generalize World.drew W0 = x0 at HS q0 hHeld ⊢
    refine takeL (i := 1) (v := ?_) rfl (by kernel_rfl) (by kernel_rfl) (by kernel_rfl) (fun _ _ _ h => h) (Or.inl ⟨by rfl, ?_⟩) (by assumption) ?_
    rotate_left
    focus (intro w hSw; go_simp; try with_reducible rfl)
    try simp only [Act.put, List.setIfInBounds_toArray, List.set_cons_zero, List.set_cons_succ]
    refine takeL (i := 2) (v := ?_) rfl (by kernel_rfl) (by kernel_rfl) (by kernel_rfl) (fun _ _ _ h => h) (Or.inl ⟨by rfl, ?_⟩) (by assumption) ?_
    rotate_left
    focus (intro w hSw; go_simp; try with_reducible rfl)
    try simp only [Act.put, List.setIfInBounds_toArray, List.set_cons_zero, List.set_cons_succ]
    refine takeL (i := 3) (v := ?_) rfl (by kernel_rfl) (by kernel_rfl) (by kernel_rfl) (fun _ _ _ h => h) (Or.inl ⟨by rfl, ?_⟩) (by assumption) ?_
    rotate_left
    focus (intro w hSw; go_simp; try with_reducible rfl)
    try simp only [Act.put, List.setIfInBounds_toArray, List.set_cons_zero, List.set_cons_succ]
    refine callL2 (i := 0) (j := 5) (by kernel_rfl) rfl rfl (fun K hQ => ?_) (fun K hQ => ?_)
    · go_simp
      go_at_call 40
      with_reducible refine (shapes_any x0).mono ?_
      rintro e x1 ⟨mb, rfl, hmb, hM, hb⟩
      have HM := hid hM
      have HS := hid (HS.out.below hb)
      have q0 := HS.out.k1
      clear hM hb
      refine hQ.out _ _ q0 (fun hHeld => ?_)
      clear hQ
      try simp only [Act.put, List.setIfInBounds_toArray, List.set_cons_zero, List.set_cons_succ]
      refine callL2 (i := 4) (j := 5) (by kernel_rfl) rfl rfl (fun K hQ => ?_) (fun K hQ => ?_)
      · refine step_look ?_ (.tmp 12) (.tmp 15) 82 3 81 ?_ Tryz.underlying82 Tryz.underlying3 shpZ shp_zero mb shpT ?_ HM.out p.k ?_ (.agg #[strV (shpN p.k), .func (.func (shpFn p.k)) #[] #[]]) (((shpT_get hk shpZ).1).trans (shpV_eq hk)) ?_
        · rfl
        · rfl
        · rfl
        · rfl
        refine hQ.out _ _ q0 (fun hHeld => ?_)
        clear hQ
        try simp only [Act.put, List.setIfInBounds_toArray, List.set_cons_zero, List.set_cons_succ]
        refine callL (i := 5) (by kernel_rfl) rfl (fun K hQ => ?_)
        go_simp
        generalize hx : World.alloc x1 _ = x2
        have HZ : Hid (x2.heap[x1.heap.size]? = some (.cells #[.string ⟨#[]⟩, .nilFunc] 81 (0, 0))) := by subst hx; exact alloc_at rfl
        have HM : Hid (MapB x2 mb shpT) := by subst hx; exact HM.out.keep ((Below.refl _ _).alloc (Nat.le_refl _) _)
        have hbw : w.heap.size < x1.heap.size := HS.out.sz
        have HS : Hid (TSt w x2 k p v) := by subst hx; exact HS.out.below ((Below.refl _ _).alloc (Nat.le_refl _) _)
        have hbx : x1.heap.size < x2.heap.size := by subst hx; simp
        have q0 := HS.out.k1
        clear hx
        refine hQ.out _ _ q0 (fun hHeld => ?_)
        clear hQ
        try simp only [Act.put, List.setIfInBounds_toArray, List.set_cons_zero, List.set_cons_succ]
        refine callL (i := 6) (by kernel_rfl) rfl (fun K hQ => ?_)
        have zz0 := cell_of_heap (j := 0) HZ.out
        have zz1 := cell_of_heap (j := 1) HZ.out
        simp at zz0 zz1
        have zzf : ∀ j, x2.frozen? ⟨x1.heap.size, j, none⟩ = false := fun j => unfrozen HZ.out
        go_simp
        have HX : Hid (TSt w ((x2.setCell ⟨x1.heap.size, 0, none⟩ (strV (shpN p.k))).setCell ⟨x1.heap.size, 1, none⟩ (.func (.func (shpFn p.k)) #[] #[])) k p v ∧ ((x2.setCell ⟨x1.heap.size, 0, none⟩ (strV (shpN p.k))).setCell ⟨x1.heap.size, 1, none⟩ (.func (.func (shpFn p.k)) #[] #[])).heap[x1.heap.size]? = some (.cells #[strV (shpN p.k), .func (.func (shpFn p.k)) #[] #[]] 81 (0, 0))) := ⟨HS.out.set hbw _ _, by simp [World.setCell, Array.getElem?_modify, HZ.out]⟩
        have q0 := HX.out.1.k1
        refine hQ.out _ _ q0 (fun hHeld => ?_)
        clear hQ
        try simp only [Act.put, List.setIfInBounds_toArray, List.set_cons_zero, List.set_cons_succ]
        refine wpAnyH_done (by kernel_rfl) ?_ _
        go_wp2_with fail
        go_meet
        case rel => exact ⟨x1.heap.size, rfl, HX.out⟩
      · go_simp
        generalize hx : World.alloc x1 _ = x3
        have HZ : Hid (x3.heap[x1.heap.size]? = some (.cells #[.string ⟨#[]⟩, .nilFunc] 81 (0, 0))) := by subst hx; exact alloc_at rfl
        have HM : Hid (MapB x3 mb shpT) := by subst hx; exact HM.out.keep ((Below.refl _ _).alloc (Nat.le_refl _) _)
        have hbw : w.heap.size < x1.heap.size := HS.out.sz
        have HS : Hid (TSt w x3 k p v) := by subst hx; exact HS.out.below ((Below.refl _ _).alloc (Nat.le_refl _) _)
        have hbx : x1.heap.size < x3.heap.size := by subst hx; simp
        have q0 := HS.out.k1
        clear hx
        refine hQ.out _ _ q0 (fun hHeld => ?_)
        clear hQ
        try simp only [Act.put, List.setIfInBounds_toArray, List.set_cons_zero, List.set_cons_succ]
        refine callL (i := 4) (by kernel_rfl) rfl (fun K hQ => ?_)
        refine step_look ?_ (.tmp 12) (.tmp 15) 82 3 81 ?_ Tryz.underlying82 Tryz.underlying3 shpZ shp_zero mb shpT ?_ HM.out p.k ?_ (.agg #[strV (shpN p.k), .func (.func (shpFn p.k)) #[] #[]]) (((shpT_get hk shpZ).1).trans (shpV_eq hk)) ?_
        · rfl
        · rfl
        · rfl
        · rfl
        refine hQ.out _ _ q0 (fun hHeld => ?_)
        clear hQ
        try simp only [Act.put, List.setIfInBounds_toArray, List.set_cons_zero, List.set_cons_succ]
        refine callL (i := 6) (by kernel_rfl) rfl (fun K hQ => ?_)
        have zz0 := cell_of_heap (j := 0) HZ.out
        have zz1 := cell_of_heap (j := 1) HZ.out
        simp at zz0 zz1
        have zzf : ∀ j, x3.frozen? ⟨x1.heap.size, j, none⟩ = false := fun j => unfrozen HZ.out
        go_simp
        have HX : Hid (TSt w ((x3.setCell ⟨x1.heap.size, 0, none⟩ (strV (shpN p.k))).setCell ⟨x1.heap.size, 1, none⟩ (.func (.func (shpFn p.k)) #[] #[])) k p v ∧ ((x3.setCell ⟨x1.heap.size, 0, none⟩ (strV (shpN p.k))).setCell ⟨x1.heap.size, 1, none⟩ (.func (.func (shpFn p.k)) #[] #[])).heap[x1.heap.size]? = some (.cells #[strV (shpN p.k), .func (.func (shpFn p.k)) #[] #[]] 81 (0, 0))) := ⟨HS.out.set hbw _ _, by simp [World.setCell, Array.getElem?_modify, HZ.out]⟩
        have q0 := HX.out.1.k1
        refine hQ.out _ _ q0 (fun hHeld => ?_)
        clear hQ
        try simp only [Act.put, List.setIfInBounds_toArray, List.set_cons_zero, List.set_cons_succ]
        refine wpAnyH_done (by kernel_rfl) ?_ _
        go_wp2_with fail
        go_meet
        case rel => exact ⟨x1.heap.size, rfl, HX.out⟩
    · go_simp
      generalize hx : World.alloc x0 _ = x4
      have HZ : Hid (x4.heap[x0.heap.size]? = some (.cells #[.string ⟨#[]⟩, .nilFunc] 81 (0, 0))) := by subst hx; exact alloc_at rfl
      have hbw : w.heap.size < x0.heap.size := HS.out.sz
      have HS : Hid (TSt w x4 k p v) := by subst hx; exact HS.out.below ((Below.refl _ _).alloc (Nat.le_refl _) _)
      have hbx : x0.heap.size < x4.heap.size := by subst hx; simp
      have q0 := HS.out.k1
      clear hx
      refine hQ.out _ _ q0 (fun hHeld => ?_)
      clear hQ
      try simp only [Act.put, List.setIfInBounds_toArray, List.set_cons_zero, List.set_cons_succ]
      refine callL (i := 0) (by kernel_rfl) rfl (fun K hQ => ?_)
      go_simp
      go_at_call 40
      with_reducible refine (shapes_any x4).mono ?_
      rintro e x5 ⟨mb, rfl, hmb, hM, hb⟩
      have HM := hid hM
      have HS := hid (HS.out.below hb)
      have HZ := hid ((hb.block _ (show x0.heap.size < x4.heap.size by omega)).trans HZ.out)
      have hbx : x0.heap.size < x5.heap.size := by have := hb.size; omega
      have q0 := HS.out.k1
      clear hM hb
      refine hQ.out _ _ q0 (fun hHeld => ?_)
      clear hQ
      try simp only [Act.put, List.setIfInBounds_toArray, List.set_cons_zero, List.set_cons_succ]
      refine callL (i := 4) (by kernel_rfl) rfl (fun K hQ => ?_)
      refine step_look ?_ (.tmp 12) (.tmp 15) 82 3 81 ?_ Tryz.underlying82 Tryz.underlying3 shpZ shp_zero mb shpT ?_ HM.out p.k ?_ (.agg #[strV (shpN p.k), .func (.func (shpFn p.k)) #[] #[]]) (((shpT_get hk shpZ).1).trans (shpV_eq hk)) ?_
      · rfl
      · rfl
      · rfl
      · rfl
      refine hQ.out _ _ q0 (fun hHeld => ?_)
      clear hQ
      try simp only [Act.put, List.setIfInBounds_toArray, List.set_cons_zero, List.set_cons_succ]
      refine callL (i := 6) (by kernel_rfl) rfl (fun K hQ => ?_)
      have zz0 := cell_of_heap (j := 0) HZ.out
      have zz1 := cell_of_heap (j := 1) HZ.out
      simp at zz0 zz1
      have zzf : ∀ j, x5.frozen? ⟨x0.heap.size, j, none⟩ = false := fun j => unfrozen HZ.out
      go_simp
      have HX : Hid (TSt w ((x5.setCell ⟨x0.heap.size, 0, none⟩ (strV (shpN p.k))).setCell ⟨x0.heap.size, 1, none⟩ (.func (.func (shpFn p.k)) #[] #[])) k p v ∧ ((x5.setCell ⟨x0.heap.size, 0, none⟩ (strV (shpN p.k))).setCell ⟨x0.heap.size, 1, none⟩ (.func (.func (shpFn p.k)) #[] #[])).heap[x0.heap.size]? = some (.cells #[strV (shpN p.k), .func (.func (shpFn p.k)) #[] #[]] 81 (0, 0))) := ⟨HS.out.set hbw _ _, by simp [World.setCell, Array.getElem?_modify, HZ.out]⟩
      have q0 := HX.out.1.k1
      refine hQ.out _ _ q0 (fun hHeld => ?_)
      clear hQ
      try simp only [Act.put, List.setIfInBounds_toArray, List.set_cons_zero, List.set_cons_succ]
      refine wpAnyH_done (by kernel_rfl) ?_ _
      go_wp2_with fail
      go_meet
      case rel => exact ⟨x0.heap.size, rfl, HX.out⟩
  case rest =>
    obtain ⟨bs, rfl, hS, hbs⟩ := hcut
    have HS := hid hS
    have hsz := hS.sz
    have y0 := cell_of_heap (j := 0) hbs
    have y1 := cell_of_heap (j := 1) hbs
    simp at y0 y1
    have hzb : bs < wc.heap.size := (Array.getElem?_eq_some_iff.1 hbs).1
    have Hbs := hid hbs
    clear hS hbs
    have hnums := hid (fun B o w => nums_any hk B o w)
    have hfn := shpFn_or p.k
    have hwl := shpN_len hk
    have Hoff : Hid (∀ j (hj : j < (offs p.k).length), 1 ≤ (offs p.k)[j] ∧ (offs p.k)[j] ≤ 3) := hid fun j hj => offs_at hk hj
    have Hnum : Hid (∀ j (hj : j < (offs p.k).length), ∃ h : j < (numsP p).length, (numsP p)[j] = p.get (offs p.k)[j] ∧ 0 ≤ (numsP p)[j] ∧ (numsP p)[j] ≤ 999999) := hid fun j hj => by
      have h : j < (numsP p).length := by rw [nums_len]; exact hj
      exact ⟨h, by simp [numsP], Hok.out.2.1 _ (List.getElem_mem h)⟩
    have Hnl := hid (nums_len p)
    have hn3 := offs_len p.k
    have Htx : Hid (txtF (.mk 3 p []) = shpN p.k ++ brkL ((numsP p).map decL)) := hid (by rw [txtF_eq, if_pos rfl])
    have HVc := hid (HV.out.next HS.out.bl)
    generalize shpFn p.k = fn at *
    generalize shpN p.k = nm at *
    clear Hok HV hk
    rcases hfn with rfl | rfl | rfl | rfl | rfl
    all_goals
      go_wp2_with fail
      refine (hnums.out _ _ _).mono ?_
      rintro e w6 ⟨a6, rfl, hpt6, hb6, -⟩
      have hS6 := hid (HS.out.below hb6)
      have hV6 := hid (HVc.out.next hb6)
      have hb6' := (hb6.block _ hzb).trans Hbs.out
      have hz6 : bs < w6.heap.size := (Array.getElem?_eq_some_iff.1 hb6').1
      have Hb6 := hid hb6'
      have Hpt6 := hid hpt6
      obtain ⟨n, hn⟩ : ∃ n, n = (offs p.k).length := ⟨_, rfl⟩
      rw [← hn] at hn3 ⊢
      have Hn := hid hn
      clear hpt6 hb6 hb6' Hbs y0 y1 hn HS HVc
      go_wp2_with fail
      go_loopw [3, 22] (fun s i wr => ∃ (j : Nat) (aa : Option Addr) (cc : Nat), j ≤ n ∧ s = .slice aa j cc ∧ i = .int .i64 j ∧ Hid (StrO wr w6.heap.size (.slice aa j cc) (((numsP p).take j).map decL) ∧ Below w6.heap.size w6 wr)) (fun _ i _ => n - (intOf i).toNat)
      case atStart => exact ⟨0, none, 0, Nat.zero_le _, rfl, rfl, StrO.nil_, Below.refl _ _⟩
      case round =>
        obtain ⟨j, aa, cc, hj, rfl, rfl, hR⟩ := hrel
        by_cases hlt : j < n
        · have hjo : j < (offs p.k).length := by rw [← Hn.out]; exact hlt
          have hoj := Hoff.out j hjo
          obtain ⟨b6, e6, b61, b62, c6⟩ := Hpt6.out j hjo
          subst e6
          obtain ⟨hjn, hxv, hx0, hx1⟩ := Hnum.out j hjo
          have htk : Hid ((((numsP p).take j).map decL) ++ [decL (numsP p)[j]] = ((numsP p).take (j + 1)).map decL) := hid (by rw [List.take_succ_eq_append_getElem hjn, List.map_append, List.map_singleton])
          have hlj : Hid ((((numsP p).take j).map decL).length = j) := hid (by rw [List.length_map, List.length_take]; omega)
          have hc6 : wr.cell? ⟨b6, j, none⟩ = some (.pointer (some ⟨w.heap.size, 1 + (offs p.k)[j], none⟩)) := (hR.out.2.cell (p := ⟨b6, j, none⟩) b62).trans c6
          have hcp : wr.cell? ⟨w.heap.size, 1 + (offs p.k)[j], none⟩ = some (.int .i64 (numsP p)[j]) := by
            rw [hxv]
            exact (hR.out.2.cell (p := ⟨w.heap.size, 1 + (offs p.k)[j], none⟩) hS6.out.sz).trans (hS6.out.get hoj)
          have hcall := hid (itoaV wr (hV6.out.below hR.out.2 hV6.out.size) (numsP p)[j] hx0 (by omega))
          have hO := hid hR.out.1
          have hB := hid hR.out.2
          generalize (numsP p)[j] = x at *
          generalize (offs p.k)[j] = o at *
          generalize ((numsP p).take j).map decL = ls at *
          have j0 : (0 : Int) ≤ j := by omega
          have j1 : (j : Int) < n := by omega
          clear hR hxv hjn hx0 hx1 c6 hoj
          go_wp2_with (first
            | (go_at_call 41
               with_reducible refine hcall.out.mono ?_
               rintro e w7 ⟨rfl, hb7⟩
               have hO7 := hid (hO.out.below hb7)
               have hB7 := hid (hB.out.trans (hb7.mono hB.out.size))
               clear hb7)
            | (at_builtin
               refine list_str (base := w6.heap.size) (.tmp 26) (.tmp 31) (.slice aa j cc) ls (decL x) rfl rfl rfl rfl hO7.out (by rw [hlj.out]; omega) hB7.out.size fun A c8 w8 hO8 hg8 => ?_
               have hlen8 : ls.length + 1 = j + 1 := by rw [hlj.out]
               rw [hlen8] at hO8 ⊢
               rw [htk.out] at hO8
               have hX := hid (And.intro hO8 ((hB7.out.alloc hB7.out.size _).grown hg8 (Nat.le_trans hB7.out.size ((Below.refl _ _).alloc (Nat.le_refl _) _).size) fun q e => (World.ownsRow.lt hO7.out q e).1))
               clear hO8 hg8 hlen8)
            | fail)
          go_roundw
          case rel => exact ⟨j + 1, _, _, by omega, rfl, by go_num, hX.out⟩
          case measure => simp [intOf]; omega
        · obtain rfl : j = n := by omega
          have hall : (numsP p).take j = numsP p := by rw [List.take_of_length_le (by rw [Hnl.out, ← Hn.out]; omega)]
          rw [hall] at hR
          have hb7 := (hR.out.2.block _ hz6).trans Hb6.out
          have y0 := cell_of_heap (j := 0) hb7
          simp at y0
          have hln : ((numsP p).map decL).length ≤ 1000 := by rw [List.length_map, Hnl.out, ← Hn.out]; omega
          have hcall := hid (call_any nm ((numsP p).map decL) (.slice aa j cc) w6.heap.size wr hR.out.1 hln hwl Hlen.out)
          have hB := hid (hS6.out.bl.trans (hR.out.2.mono hS6.out.bl.size))
          clear hR hall hb7 hln
          go_wp2_with (first
            | (go_at_call 42
               with_reducible refine hcall.out.mono ?_
               rintro e w7 ⟨rfl, hb7⟩
               have hb7 := hid hb7)
            | fail)
          go_ret
          rw [Htx.out]
          exact ⟨rfl, hB.out.trans (hb7.out.mono hB.out.size)⟩
end Go.Proofs.YtogopcejapklgaaGreatDoor
