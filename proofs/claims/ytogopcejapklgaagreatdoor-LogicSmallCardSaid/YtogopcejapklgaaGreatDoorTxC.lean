/- The program's text of a formula. -/
import Derived.Test.YtogopcejapklgaaGreatDoorTxB
import Derived.Test.YtogopcejapklgaaGreatDoorPrE
namespace Go.Proofs.YtogopcejapklgaaGreatDoor
open Go Go.RowKit

theorem sizeL_mem : ∀ {l : List Fm}, ∀ f ∈ l, f.size ≤ Fm.sizeL l
  | [], _, h => by simp at h
  | g :: l, f, h => by
    rw [Fm.sizeL_cons]
    rcases List.mem_cons.1 h with rfl | h
    · omega
    · have := sizeL_mem f h
      omega
theorem frmN_len {k : Int} (hk : isFrm k) : (frmN k).length ≤ 1000 := by rcases hk with rfl | rfl | rfl | rfl | rfl | rfl | rfl | rfl | rfl | rfl | rfl <;> decide
theorem frm_field (n : List UInt8) (k : Int) (w : World) : (Instr.field 89 (.agg #[strV n, .int .i64 k]) 0).run Tryz.prog w = .ok (strV n) w := by kernel_rfl
/-- The contract of text, within so much depth. -/
def TxAt (d : Nat) : Prop := ∀ (f : Fm) (a : Option Addr) (cap : Nat) (w : World), okD d f → f.size ≤ 200 → Vars w → FmIn w (In_ w) (fmC f.kind f.prop a f.kids.length cap) f →
  Calls Tryz.prog 23 #[.agg #[.int .i64 f.kind, .int .i64 f.prop.k, .int .i64 f.prop.t, .int .i64 f.prop.a, .int .i64 f.prop.n, .slice a f.kids.length cap]] w
    fun e w' => e = .returned (strV (txtF f)) ∧ Below w.heap.size w w'

set_option maxRecDepth 100000 in
set_option maxHeartbeats 8000000 in
theorem text_step (d : Nat) (hR : TxAt d) : TxAt (d + 1) := by
  intro f a cap w hok hs hV hin
  obtain ⟨k, p, l⟩ := f
  simp only [Fm.kind, Fm.prop, Fm.kids] at hin ⊢
  have hok0 := hok
  rw [okD_succ] at hok
  obtain ⟨hok, hl⟩ := hok
  rcases hok with ⟨rfl, hP, rfl⟩ | ⟨hk, hpz, hn⟩
  · exact text_atom p hP _ w hV
  obtain ⟨a', cap', e', -, -, hrow⟩ := hin.open_
  simp only [List.cons.injEq, Value.slice.injEq, and_true, true_and] at e'
  obtain ⟨rfl, rfl⟩ := e'
  have htx : txtF (.mk k p l) = frmN k ++ brkL (l.map txtF) := by rw [txtF_eq, if_neg hk.ne]
  have Hjoin := hid (join_txt hok0 hs _ _ htx)
  have Htx := hid htx
  have hsz : Fm.sizeL l ≤ 200 := by rw [Fm.size_eq] at hs; omega
  have HR : Hid (∀ j (h : j < l.length) (ka : Option Addr) (kc : Nat) (W : World), Vars W → FmIn W (In_ W) (fmC l[j].kind l[j].prop ka l[j].kids.length kc) l[j] →
      Calls Tryz.prog 23 #[.agg #[.int .i64 l[j].kind, .int .i64 l[j].prop.k, .int .i64 l[j].prop.t, .int .i64 l[j].prop.a, .int .i64 l[j].prop.n, .slice ka l[j].kids.length kc]] W fun e w' => e = .returned (strV (txtF l[j])) ∧ Below W.heap.size W w') :=
    hid fun j h ka kc W h1 h2 => hR l[j] ka kc W (okL_mem hl _ (List.getElem_mem h)) (Nat.le_trans (sizeL_mem _ (List.getElem_mem h)) hsz) h1 h2
  have hmx := hrow.mx
  have hle := hrow.le
  unfold maxLen at hmx
  have Hrow := hid hrow
  have HV := hid hV
  have hll : l.length ≤ 2 := by rw [hn]; exact frmK_le k
  have hk3 : (k == 3) = false := by simpa using hk.ne
  have hwl := frmN_len hk
  have Hk := hid hk
  clear hok0 hl hpz hn hin hrow htx hs hsz hV hR hk
  go_enter Tryz.func23, Tryz.ntmps23
  go_upto_region 10 with fail
  generalize hW : World.alloc w _ = W0
  have HS : Hid (TSt w W0 k p (.slice a l.length cap)) := by subst hW; exact ⟨(Below.refl _ _).alloc (Nat.le_refl _) _, alloc_at rfl⟩
  clear hW
  obtain ⟨-, -, -, -, -, z5⟩ := HS.out.six
  have hw0 := HS.out.sz
  go_wp2_with fail
  go_loopw [3, 41] (fun s i wr => ∃ (j : Nat) (aa : Option Addr) (cc : Nat), j ≤ l.length ∧ s = .slice aa j cc ∧ i = .int .i64 j ∧ Hid (StrO wr W0.heap.size (.slice aa j cc) ((l.take j).map txtF) ∧ Below W0.heap.size W0 wr)) (fun _ i _ => l.length - (intOf i).toNat)
  case atStart => exact ⟨0, none, 0, Nat.zero_le _, rfl, rfl, StrO.nil_, Below.refl _ _⟩
  case round =>
    obtain ⟨j, aa, cc, hj, rfl, rfl, hQ⟩ := hrel
    by_cases hlt : j < l.length
    · have hB := hid (HS.out.bl.trans (hQ.out.2.mono HS.out.bl.size))
      have hin' : FmRow wr (In_ w) a l.length cap l := Hrow.out.keep fun b o hb => hB.out.cell (p := ⟨b, o, none⟩) hb
      obtain ⟨b, off, ka, kc, rfl, hb, ⟨e0, e1, e2, e3, e4, e5⟩, -, hfm⟩ := hin'.at_ j hlt
      have k0 : (0 : Int) ≤ j := by omega
      have k1 : (j : Int) < l.length := by omega
      have htk : Hid ((l.take j).map txtF ++ [txtF l[j]] = (l.take (j + 1)).map txtF) := hid (by rw [List.take_succ_eq_append_getElem hlt, List.map_append, List.map_singleton])
      have hlj : Hid (((l.take j).map txtF).length = j) := hid (by rw [List.length_map, List.length_take]; omega)
      have hszw := hB.out.size
      have hcall : Hid (∀ W, Below wr.heap.size wr W → Calls Tryz.prog 23 #[.agg #[.int .i64 l[j].kind, .int .i64 l[j].prop.k, .int .i64 l[j].prop.t, .int .i64 l[j].prop.a, .int .i64 l[j].prop.n, .slice ka l[j].kids.length kc]] W fun e w' => e = .returned (strV (txtF l[j])) ∧ Below W.heap.size W w') :=
        hid fun W hbW => HR.out j hlt ka kc W (HV.out.next (hB.out.trans (hbW.mono hszw))) ((hfm.keep fun b o hb => hbW.cell (p := ⟨b, o, none⟩) (Nat.lt_of_lt_of_le hb hszw)).widen fun b hb => Nat.lt_of_lt_of_le hb (Nat.le_trans hszw hbW.size))
      have hO := hid hQ.out.1
      have hBq := hid hQ.out.2
      generalize txtF l[j] = t at *
      generalize (l.take j).map txtF = ls at *
      generalize l[j].kind = kd at *
      generalize l[j].prop.k = pk at *
      generalize l[j].prop.t = pt at *
      generalize l[j].prop.a = pa at *
      generalize l[j].prop.n = pn at *
      generalize l[j].kids.length = kl at *
      clear hQ hin' hfm z5
      go_upto_region 13 with fail
      generalize hW : World.alloc wr _ = W13
      have hh : W13.heap[wr.heap.size]? = some (.cells #[.int .i64 kd, .int .i64 pk, .int .i64 pt, .int .i64 pa, .int .i64 pn, .slice ka kl kc] 30 (0, 0)) := by subst hW; exact alloc_at rfl
      have hbW : Hid (Below wr.heap.size wr W13) := by
        subst hW
        exact (Below.refl _ _).alloc (Nat.le_refl _) _
      have z0 := cell_of_heap (j := 0) hh
      have z1 := cell_of_heap (j := 1) hh
      have z2 := cell_of_heap (j := 2) hh
      have z3 := cell_of_heap (j := 3) hh
      have z4 := cell_of_heap (j := 4) hh
      have z5 := cell_of_heap (j := 5) hh
      simp at z0 z1 z2 z3 z4 z5
      have hcall := hid (hcall.out W13 hbW.out)
      have hO := hid (hO.out.below hbW.out)
      have hBq := hid (hBq.out.trans (hbW.out.mono hBq.out.size))
      clear hW hh hbW e0 e1 e2 e3 e4 e5
      go_wp2_with (first
        | (go_at_call 23
           with_reducible refine hcall.out.mono ?_
           rintro e w7 ⟨rfl, hb7⟩
           have hO7 := hid (hO.out.below hb7)
           have hB7 := hid (hBq.out.trans (hb7.mono hBq.out.size))
           clear hb7)
        | (at_builtin
           refine list_str (base := W0.heap.size) (.tmp 45) (.tmp 48) (.slice aa j cc) ls t rfl rfl rfl rfl hO7.out (by rw [hlj.out]; omega) hB7.out.size fun A c8 w8 hO8 hg8 => ?_
           have hlen8 : ls.length + 1 = j + 1 := by rw [hlj.out]
           rw [hlen8] at hO8 ⊢
           rw [htk.out] at hO8
           have hX := hid (And.intro hO8 ((hB7.out.alloc hB7.out.size _).grown hg8 (Nat.le_trans hB7.out.size ((Below.refl _ _).alloc (Nat.le_refl _) _).size) fun q e => (World.ownsRow.lt hO7.out q e).1))
           clear hO8 hg8 hlen8)
        | fail)
      go_roundw
      case rel => exact ⟨j + 1, _, _, by omega, rfl, by go_num, hX.out⟩
      case measure => simp [intOf]; omega
    · obtain rfl : j = l.length := by omega
      rw [List.take_length] at hQ
      have hB := hid (HS.out.bl.trans (hQ.out.2.mono HS.out.bl.size))
      have q0 : wr.drew.cell? ⟨w.heap.size, 0, none⟩ = some (.int .i64 k) := (hQ.out.2.cell (p := ⟨w.heap.size, 0, none⟩) hw0).trans HS.out.k0
      have hcall : Hid (∀ W, Below wr.drew.heap.size wr.drew W → Calls Tryz.prog 42 #[strV (frmN k), .slice aa l.length cc] W fun e w' => e = .returned (strV (frmN k ++ brkL (l.map txtF))) ∧ Below W.heap.size W w') :=
        hid fun W hb => call_any (frmN k) (l.map txtF) _ W0.heap.size W (hQ.out.1.below ((Below.refl _ wr).drew.trans hb)) (by rw [List.length_map]; omega) hwl Hjoin.out
      have HB : Hid (Below w.heap.size w wr.drew) := hid hB.out.drew
      have hw1 : w.heap.size < wr.drew.heap.size := Nat.lt_of_lt_of_le hw0 hQ.out.2.size
      generalize (l.map txtF) = ls at *
      go_upto_region 15 with fail
      clear hQ hB z5
      refine wp_region_held_drew (S := fun W => W.cell? ⟨w.heap.size, 0, none⟩ = some (.int .i64 k)) (by kernel_rfl) q0 (fun hHeld => ?_)
      generalize World.drew wr = x0 at *
      refine takeL (i := 1) (v := ?_) rfl (by kernel_rfl) (by kernel_rfl) (by kernel_rfl) (fun _ _ _ h => h) (Or.inl ⟨by rfl, ?_⟩) (by assumption) ?_
      rotate_left
      focus (intro w hSw; go_simp; try with_reducible rfl)
      try simp only [Act.put, List.setIfInBounds_toArray, List.set_cons_zero, List.set_cons_succ]
      refine takeL (i := 2) (v := ?_) rfl (by kernel_rfl) (by kernel_rfl) (by kernel_rfl) (fun _ _ _ h => h) (Or.inl ⟨by rfl, ?_⟩) (by assumption) ?_
      rotate_left
      focus (intro w hSw; go_simp; try with_reducible rfl)
      try simp only [Act.put, List.setIfInBounds_toArray, List.set_cons_zero, List.set_cons_succ]
      refine takeL (i := 5) (v := ?_) rfl (by kernel_rfl) (by kernel_rfl) (by kernel_rfl) (fun _ _ _ h => h) (Or.inl ⟨by rfl, ?_⟩) (by assumption) ?_
      rotate_left
      focus (intro w hSw; go_simp; try with_reducible rfl)
      try simp only [Act.put, List.setIfInBounds_toArray, List.set_cons_zero, List.set_cons_succ]
      refine callL (i := 0) (by kernel_rfl) rfl (fun K hQ => ?_)
      go_simp
      go_at_call 35
      with_reducible refine (forms_any x0).mono ?_
      rintro e x1 ⟨mb, rfl, hmb, hM, hb⟩
      have HM := hid hM
      have HX := hid hb
      have q0 : x1.cell? ⟨w.heap.size, 0, none⟩ = some (.int .i64 k) := (hb.cell (p := ⟨w.heap.size, 0, none⟩) hw1).trans q0
      clear hM hb
      refine hQ.out _ _ q0 (fun hHeld => ?_)
      clear hQ
      try simp only [Act.put, List.setIfInBounds_toArray, List.set_cons_zero, List.set_cons_succ]
      refine callL (i := 3) (by kernel_rfl) rfl (fun K hQ => ?_)
      refine step_look ?_ (.tmp 51) (.tmp 53) 70 3 89 ?_ Tryz.underlying70 Tryz.underlying3 frmZ frm_zero mb frmT ?_ HM.out k ?_ (.agg #[strV (frmN k), .int .i64 (frmK k)]) (frmT_get Hk.out frmZ).1 ?_
      · rfl
      · rfl
      · rfl
      · rfl
      refine hQ.out _ _ q0 (fun hHeld => ?_)
      clear hQ
      try simp only [Act.put, List.setIfInBounds_toArray, List.set_cons_zero, List.set_cons_succ]
      refine callL (i := 4) (by kernel_rfl) rfl (fun K hQ => ?_)
      have hfld := frm_field (frmN k) (frmK k)
      go_simp
      refine hQ.out _ _ q0 (fun hHeld => ?_)
      clear hQ
      try simp only [Act.put, List.setIfInBounds_toArray, List.set_cons_zero, List.set_cons_succ]
      refine callL (i := 6) (by kernel_rfl) rfl (fun K hQ => ?_)
      go_simp
      go_at_call 42
      with_reducible refine (hcall.out x1 HX.out).mono ?_
      rintro e x2 ⟨rfl, hb⟩
      have HY := hid (HB.out.trans ((HX.out.trans (hb.mono HX.out.size)).mono HB.out.size))
      have q0 : x2.cell? ⟨w.heap.size, 0, none⟩ = some (.int .i64 k) := (hb.cell (p := ⟨w.heap.size, 0, none⟩) (Nat.lt_of_lt_of_le hw1 HX.out.size)).trans q0
      clear hb
      refine hQ.out _ _ q0 (fun hHeld => ?_)
      clear hQ
      try simp only [Act.put, List.setIfInBounds_toArray, List.set_cons_zero, List.set_cons_succ]
      refine takeL (i := 7) (v := ?_) rfl (by kernel_rfl) (by kernel_rfl) (by kernel_rfl) (fun _ _ _ h => h) (Or.inl ⟨by rfl, ?_⟩) (by assumption) ?_
      rotate_left
      focus (intro w hSw; go_simp; try with_reducible rfl)
      try simp only [Act.put, List.setIfInBounds_toArray, List.set_cons_zero, List.set_cons_succ]
      refine wpAnyH_done (by kernel_rfl) ?_ _
      go_wp2_with fail
      go_ret
      rw [Htx.out]
      exact ⟨rfl, HY.out⟩
theorem text_all : ∀ d, TxAt d
  | 0 => fun f _ _ _ h => absurd h (okD_zero f)
  | d + 1 => text_step d (text_all d)
end Go.Proofs.YtogopcejapklgaaGreatDoor
