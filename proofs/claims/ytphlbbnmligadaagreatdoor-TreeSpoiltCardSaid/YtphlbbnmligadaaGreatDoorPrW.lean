/- The program's writers of statements, kind by kind. -/
import Derived.Test.YtphlbbnmligadaaGreatDoorPrV
namespace Go.Proofs.YtphlbbnmligadaaGreatDoor
open Go.RowKit

/-- What has only been added to. -/
def BW (W0 W : World) : Prop := Below W0.heap.size W0 W
theorem BW.next {W0 W W' : World} (h : BW W0 W) (hb : Below W.heap.size W W') : BW W0 W' := Below.trans h (hb.mono h.size)
theorem BW.start (W0 : World) : BW W0 W0.drew := (Below.refl _ _).drew
theorem BW.same (W0 : World) : BW W0 W0 := Below.refl _ _
theorem BW.alloc {W0 W : World} (h : BW W0 W) (o : Obj) : BW W0 (W.alloc o) := h.next ((Below.refl _ _).alloc (Nat.le_refl _) _)


set_option maxRecDepth 100000 in
set_option maxHeartbeats 4000000 in
theorem wload_any (vs : List ByteArray) (hv : vs.all nameB = true) (B wb : Nat) (L : List UInt8) (va : Option Addr) (cv : Nat) (r v : Int) (u0 u1 u2 u3 v0 v1 v2 v3 : Value) (_xa _xb : Ex) (ta ea : Option Addr) (tn en tc ec : Nat) (w : World) (hw : Wt w B wb L (.slice va vs.length cv)) (hBw : B ≤ w.heap.size) (hvr : VrIn w (LtB B) va vs.length cv vs)
    (hr : 0 ≤ r ∧ r < 100) (hvn : 0 ≤ v ∧ v < vs.length) (hoa : u0.oneCell' = true ∧ u1.oneCell' = true ∧ u2.oneCell' = true ∧ u3.oneCell' = true) (hob : v0.oneCell' = true ∧ v1.oneCell' = true ∧ v2.oneCell' = true ∧ v3.oneCell' = true) (hlen : L.length ≤ 90000000000) :
    Calls Tryz.prog 77 #[.pointer (some ⟨wb, 0, none⟩), .agg #[.int .i64 1, .int .i64 r, .int .i64 v, u0, u1, u2, u3, v0, v1, v2, v3, .slice ta tn tc, .slice ea en ec]] w (PutPost B wb (L ++ (toB r ++ nmB vs v ++ [59])) (.slice va vs.length cv) w) := by
  obtain ⟨oa0, oa1, oa2, oa3⟩ := hoa
  obtain ⟨ob0, ob1, ob2, ob3⟩ := hob
  generalize hW : w.alloc (.cells #[.int .i64 1, .int .i64 r, .int .i64 v, u0, u1, u2, u3, v0, v1, v2, v3, .slice ta tn tc, .slice ea en ec] 56) = W0
  have hB : Below w.heap.size w W0 := by subst hW; exact (Below.refl _ _).alloc (Nat.le_refl _) _
  have z0 : w.heap.size < W0.heap.size := by subst hW; simp
  have hX : Hid (W0.heap[w.heap.size]? = some (.cells #[.int .i64 1, .int .i64 r, .int .i64 v, u0, u1, u2, u3, v0, v1, v2, v3, .slice ta tn tc, .slice ea en ec] 56 (0, 0))) := by subst hW; exact heap_alloc_new w _
  have c0 : W0.cell? ⟨w.heap.size, 0, none⟩ = some (.int .i64 1) := by subst hW; go_simp
  have c1 : W0.cell? ⟨w.heap.size, 1, none⟩ = some (.int .i64 r) := by subst hW; go_simp
  have c2 : W0.cell? ⟨w.heap.size, 2, none⟩ = some (.int .i64 v) := by subst hW; go_simp
  have c3 : W0.cell? ⟨w.heap.size, 3, none⟩ = some u0 := by subst hW; go_simp
  have c4 : W0.cell? ⟨w.heap.size, 4, none⟩ = some u1 := by subst hW; go_simp
  have c5 : W0.cell? ⟨w.heap.size, 5, none⟩ = some u2 := by subst hW; go_simp
  have c6 : W0.cell? ⟨w.heap.size, 6, none⟩ = some u3 := by subst hW; go_simp
  have c7 : W0.cell? ⟨w.heap.size, 7, none⟩ = some v0 := by subst hW; go_simp
  have c8 : W0.cell? ⟨w.heap.size, 8, none⟩ = some v1 := by subst hW; go_simp
  have c9 : W0.cell? ⟨w.heap.size, 9, none⟩ = some v2 := by subst hW; go_simp
  have c10 : W0.cell? ⟨w.heap.size, 10, none⟩ = some v3 := by subst hW; go_simp
  have c11 : W0.cell? ⟨w.heap.size, 11, none⟩ = some (.slice ta tn tc) := by subst hW; go_simp
  have c12 : W0.cell? ⟨w.heap.size, 12, none⟩ = some (.slice ea en ec) := by subst hW; go_simp
  have Hw0 := hid (hw.below hB)
  have hwl := hw.lt
  have zw : wb < W0.heap.size := by omega
  have hne : w.heap.size ≠ wb := by omega
  have hdg := toB_len r
  have hnm := nmB_len hv v
  obtain ⟨vn, e⟩ : ∃ vn : Nat, v = vn := ⟨v.toNat, by omega⟩
  subst e
  obtain ⟨vb, vo, rfl, hvb, y0⟩ := hvr.at_ vn (by omega)
  have hvb' : vb < B := hvb
  have hnv : strL (nmB vs vn) = vs[vn] := by unfold nmB; rw [Int.toNat_natCast, List.getElem?_eq_getElem (by omega), Option.getD_some]; exact strL_data _
  rw [← hnv] at y0
  have y1 : W0.cell? ⟨vb, vo + vn, none⟩ = some (.string (strL (nmB vs vn))) := (hB.cell (p := ⟨vb, vo + vn, none⟩) (by show vb < _; omega)).trans y0
  have q0 : (0 : Int) ≤ (vn : Int) := by omega
  have q1 : (vn : Int) < vs.length := by omega
  have hcv := hvr.le
  have HRd : Hid (∀ W, BW W0 W → Rd w.heap.size wb (.slice (some ⟨vb, vo, none⟩) vs.length cv) vb (vo + vn) (.string (strL (nmB vs vn))) W0 W) := fun W hb => Rd.below (W := W0) ⟨fun _ => rfl, Hw0.out.c2, y1⟩ hb z0 zw (by omega)
  have HRk : Hid (∀ W W' L', BW W0 W → Wk B wb W W' → Wt W' B wb L' (.slice (some ⟨vb, vo, none⟩) vs.length cv) → Rd w.heap.size wb (.slice (some ⟨vb, vo, none⟩) vs.length cv) vb (vo + vn) (.string (strL (nmB vs vn))) W0 W') := fun W W' L' hb hk hw' => Rd.wk (HRd.out W hb) hk ((Below.block hb _ z0).trans hX.out) (by decide) hne hw' hvb'
  have HWt : Hid (∀ W, BW W0 W → Wt W B wb L (.slice (some ⟨vb, vo, none⟩) vs.length cv)) := fun W hb => Hw0.out.below hb
  have HWk : Hid (∀ W W', BW W0 W → Wk B wb W W' → Wk B wb w W') := fun W W' hb hk => (Wk.of_below (hB.trans (Below.mono hb hB.size)) hBw).trans hk
  have HBs : Hid (∀ W, BW W0 W → B ≤ W.heap.size) := fun W hb => Nat.le_trans hBw (Nat.le_trans hB.size (Below.size hb))
  have hto := hid (fun W => to_any 1 r vn u0 u1 u2 u3 v0 v1 v2 v3 (.slice ta tn tc) (.slice ea en ec) hr.1 hr.2 W)
  obtain ⟨lst, hlst⟩ : ∃ l : List ByteArray, l = [strL (toB r), strL (nmB vs vn), ⟨#[59]⟩] := ⟨_, rfl⟩
  have hcat : catB lst = toB r ++ nmB vs vn ++ [59] := by rw [hlst]; simp [catB, strL]
  have hcl : (catB lst).length ≤ 100000000 := by rw [hcat]; first | omega | (simp; done) | (simp; omega)
  have hput := hid (fun W (hb : BW W0 W) => put_lit W (lst.map Value.string).toArray 3 lst (HWt.out W hb) (HBs.out W hb) rfl (by rw [hlst]; rfl) (by omega) (by omega))
  have hmp : (lst.map Value.string).toArray = #[.string (strL (toB r)), .string (strL (nmB vs vn)), .string ⟨#[59]⟩] := by rw [hlst]; rfl
  rw [hmp] at hput
  have hfin : Hid (catB lst = toB r ++ nmB vs vn ++ [59]) := hcat
  have hWx := hid hW
  clear hW hB hw hvr hlst hcat hcl hmp hX Hw0 hdg hnm hv y0 hnv
  generalize strL (toB r) = SR at *
  generalize strL (nmB vs vn) = SN at *
  go_enter Tryz.func77, Tryz.ntmps77
  go_wp2_with fail
  rw [hWx.out]
  have hk0 := BW.start W0
  have hS0 := HRd.out _ hk0
  go_region_held3 (Rd w.heap.size wb (.slice (some ⟨vb, vo, none⟩) vs.length cv) vb (vo + vn) (.string (SN)) W0)
    (first | assumption | exact HRd.out _ (BW.alloc (by assumption) _))
    (first
      | (go_at_call 115
         with_reducible refine (hto.out _).mono ?_
         rintro e w1 ⟨rfl, hb1⟩
         have hk1 : BW W0 w1 := BW.next (by assumption) hb1
         have hS1 := HRd.out _ hk1
         clear hb1)
      | (go_at_call 25
         with_reducible refine (hput.out _ ?_).mono ?_
         (focus assumption)
         rintro e w9 ⟨rfl, hw9, hk9⟩
         have hS9 := HRk.out _ _ _ (by assumption) hk9 hw9
         have HW9 := hid hw9
         have HK9 := hid (HWk.out _ _ (by assumption) hk9)
         clear hk9 hw9)
      | fail)
  all_goals
    go_wp2_with fail
    go_end0
    exact ⟨rfl, by have h := HW9.out; rw [hfin.out] at h; first | exact h | simpa using h, HK9.out⟩

set_option maxRecDepth 100000 in
set_option maxHeartbeats 4000000 in
theorem wstore_any (vs : List ByteArray) (hv : vs.all nameB = true) (B wb : Nat) (L : List UInt8) (va : Option Addr) (cv : Nat) (r v : Int) (u0 u1 u2 u3 v0 v1 v2 v3 : Value) (xa _xb : Ex) (ta ea : Option Addr) (tn en tc ec : Nat) (w : World) (hw : Wt w B wb L (.slice va vs.length cv)) (hBw : B ≤ w.heap.size) (hvr : VrIn w (LtB B) va vs.length cv vs)
    (_hr : 0 ≤ r ∧ r < 100) (hvn : 0 ≤ v ∧ v < vs.length) (hxa : ExIn w (LtB B) [u0, u1, u2, u3] xa) (hfa : xa.fit 16 20 = true) (hob : v0.oneCell' = true ∧ v1.oneCell' = true ∧ v2.oneCell' = true ∧ v3.oneCell' = true) (hlen : L.length ≤ 90000000000) :
    Calls Tryz.prog 78 #[.pointer (some ⟨wb, 0, none⟩), .agg #[.int .i64 2, .int .i64 r, .int .i64 v, u0, u1, u2, u3, v0, v1, v2, v3, .slice ta tn tc, .slice ea en ec]] w (PutPost B wb (L ++ (nmB vs v ++ [32, 61, 32] ++ xa.txt ++ [59])) (.slice va vs.length cv) w) := by
  obtain ⟨oa0, oa1, oa2, oa3⟩ := hxa.ones
  have hal := Ex.txt_le hfa
  obtain ⟨ob0, ob1, ob2, ob3⟩ := hob
  generalize hW : w.alloc (.cells #[.int .i64 2, .int .i64 r, .int .i64 v, u0, u1, u2, u3, v0, v1, v2, v3, .slice ta tn tc, .slice ea en ec] 56) = W0
  have hB : Below w.heap.size w W0 := by subst hW; exact (Below.refl _ _).alloc (Nat.le_refl _) _
  have z0 : w.heap.size < W0.heap.size := by subst hW; simp
  have hX : Hid (W0.heap[w.heap.size]? = some (.cells #[.int .i64 2, .int .i64 r, .int .i64 v, u0, u1, u2, u3, v0, v1, v2, v3, .slice ta tn tc, .slice ea en ec] 56 (0, 0))) := by subst hW; exact heap_alloc_new w _
  have c0 : W0.cell? ⟨w.heap.size, 0, none⟩ = some (.int .i64 2) := by subst hW; go_simp
  have c1 : W0.cell? ⟨w.heap.size, 1, none⟩ = some (.int .i64 r) := by subst hW; go_simp
  have c2 : W0.cell? ⟨w.heap.size, 2, none⟩ = some (.int .i64 v) := by subst hW; go_simp
  have c3 : W0.cell? ⟨w.heap.size, 3, none⟩ = some u0 := by subst hW; go_simp
  have c4 : W0.cell? ⟨w.heap.size, 4, none⟩ = some u1 := by subst hW; go_simp
  have c5 : W0.cell? ⟨w.heap.size, 5, none⟩ = some u2 := by subst hW; go_simp
  have c6 : W0.cell? ⟨w.heap.size, 6, none⟩ = some u3 := by subst hW; go_simp
  have c7 : W0.cell? ⟨w.heap.size, 7, none⟩ = some v0 := by subst hW; go_simp
  have c8 : W0.cell? ⟨w.heap.size, 8, none⟩ = some v1 := by subst hW; go_simp
  have c9 : W0.cell? ⟨w.heap.size, 9, none⟩ = some v2 := by subst hW; go_simp
  have c10 : W0.cell? ⟨w.heap.size, 10, none⟩ = some v3 := by subst hW; go_simp
  have c11 : W0.cell? ⟨w.heap.size, 11, none⟩ = some (.slice ta tn tc) := by subst hW; go_simp
  have c12 : W0.cell? ⟨w.heap.size, 12, none⟩ = some (.slice ea en ec) := by subst hW; go_simp
  have Hw0 := hid (hw.below hB)
  have hwl := hw.lt
  have zw : wb < W0.heap.size := by omega
  have hne : w.heap.size ≠ wb := by omega
  have hdg := toB_len r
  have hnm := nmB_len hv v
  obtain ⟨vn, e⟩ : ∃ vn : Nat, v = vn := ⟨v.toNat, by omega⟩
  subst e
  obtain ⟨vb, vo, rfl, hvb, y0⟩ := hvr.at_ vn (by omega)
  have hvb' : vb < B := hvb
  have hnv : strL (nmB vs vn) = vs[vn] := by unfold nmB; rw [Int.toNat_natCast, List.getElem?_eq_getElem (by omega), Option.getD_some]; exact strL_data _
  rw [← hnv] at y0
  have y1 : W0.cell? ⟨vb, vo + vn, none⟩ = some (.string (strL (nmB vs vn))) := (hB.cell (p := ⟨vb, vo + vn, none⟩) (by show vb < _; omega)).trans y0
  have q0 : (0 : Int) ≤ (vn : Int) := by omega
  have q1 : (vn : Int) < vs.length := by omega
  have hcv := hvr.le
  have HRd : Hid (∀ W, BW W0 W → Rd w.heap.size wb (.slice (some ⟨vb, vo, none⟩) vs.length cv) vb (vo + vn) (.string (strL (nmB vs vn))) W0 W) := fun W hb => Rd.below (W := W0) ⟨fun _ => rfl, Hw0.out.c2, y1⟩ hb z0 zw (by omega)
  have HRk : Hid (∀ W W' L', BW W0 W → Wk B wb W W' → Wt W' B wb L' (.slice (some ⟨vb, vo, none⟩) vs.length cv) → Rd w.heap.size wb (.slice (some ⟨vb, vo, none⟩) vs.length cv) vb (vo + vn) (.string (strL (nmB vs vn))) W0 W') := fun W W' L' hb hk hw' => Rd.wk (HRd.out W hb) hk ((Below.block hb _ z0).trans hX.out) (by decide) hne hw' hvb'
  have HWt : Hid (∀ W, BW W0 W → Wt W B wb L (.slice (some ⟨vb, vo, none⟩) vs.length cv)) := fun W hb => Hw0.out.below hb
  have HWk : Hid (∀ W W', BW W0 W → Wk B wb W W' → Wk B wb w W') := fun W W' hb hk => (Wk.of_below (hB.trans (Below.mono hb hB.size)) hBw).trans hk
  have HBs : Hid (∀ W, BW W0 W → B ≤ W.heap.size) := fun W hb => Nat.le_trans hBw (Nat.le_trans hB.size (Below.size hb))
  have hTA : Hid (∀ W, BW W0 W → Calls Tryz.prog 116 #[.agg #[u0, u1, u2, u3]] W fun e w' => e = .returned (.string (strL xa.txt)) ∧ Below W.heap.size W w') := fun W hb => ptext_any (Int.le_refl 16) 20 (Nat.le_refl _) xa hfa [u0, u1, u2, u3] W ((hxa.keep fun b o hb' => (Below.cell (p := ⟨b, o, none⟩) (hB.trans (Below.mono hb hB.size)) (by have h' : b < B := hb'; show b < _; omega))).widen fun b hb' => by have h' : b < B := hb'; have := HBs.out W hb; show b < _; omega)
  obtain ⟨lst, hlst⟩ : ∃ l : List ByteArray, l = [strL (nmB vs vn), ⟨#[32, 61, 32]⟩, strL (xa.txt), ⟨#[59]⟩] := ⟨_, rfl⟩
  have hcat : catB lst = nmB vs vn ++ [32, 61, 32] ++ xa.txt ++ [59] := by rw [hlst]; simp [catB, strL]
  have hcl : (catB lst).length ≤ 100000000 := by rw [hcat]; first | omega | (simp; done) | (simp; omega)
  have hput := hid (fun W (hb : BW W0 W) => put_lit W (lst.map Value.string).toArray 4 lst (HWt.out W hb) (HBs.out W hb) rfl (by rw [hlst]; rfl) (by omega) (by omega))
  have hmp : (lst.map Value.string).toArray = #[.string (strL (nmB vs vn)), .string ⟨#[32, 61, 32]⟩, .string (strL (xa.txt)), .string ⟨#[59]⟩] := by rw [hlst]; rfl
  rw [hmp] at hput
  have hfin : Hid (catB lst = nmB vs vn ++ [32, 61, 32] ++ xa.txt ++ [59]) := hcat
  have hWx := hid hW
  clear hW hB hw hvr hlst hcat hcl hmp hX Hw0 hdg hnm hv hal y0 hnv hxa hfa
  generalize strL (nmB vs vn) = SN at *
  generalize strL (xa.txt) = SA at *
  go_enter Tryz.func78, Tryz.ntmps78
  go_wp2_with fail
  rw [hWx.out]
  have hk0 := BW.start W0
  have hS0 := HRd.out _ hk0
  go_region_held3 (Rd w.heap.size wb (.slice (some ⟨vb, vo, none⟩) vs.length cv) vb (vo + vn) (.string (SN)) W0)
    (first | assumption | exact HRd.out _ (BW.alloc (by assumption) _))
    (first
      | (go_at_call 116
         with_reducible refine (hTA.out _ ?_).mono ?_
         (focus assumption)
         rintro e w2 ⟨rfl, hb2⟩
         have hk2 : BW W0 w2 := BW.next (by assumption) hb2
         have hS2 := HRd.out _ hk2
         clear hb2)
      | (go_at_call 25
         with_reducible refine (hput.out _ ?_).mono ?_
         (focus assumption)
         rintro e w9 ⟨rfl, hw9, hk9⟩
         have hS9 := HRk.out _ _ _ (by assumption) hk9 hw9
         have HW9 := hid hw9
         have HK9 := hid (HWk.out _ _ (by assumption) hk9)
         clear hk9 hw9)
      | fail)
  all_goals
    go_wp2_with fail
    go_end0
    exact ⟨rfl, by have h := HW9.out; rw [hfin.out] at h; first | exact h | simpa using h, HK9.out⟩

set_option maxRecDepth 100000 in
set_option maxHeartbeats 4000000 in
theorem wset_any (vs : List ByteArray) (hv : vs.all nameB = true) (B wb : Nat) (L : List UInt8) (va : Option Addr) (cv : Nat) (r v : Int) (u0 u1 u2 u3 v0 v1 v2 v3 : Value) (xa _xb : Ex) (ta ea : Option Addr) (tn en tc ec : Nat) (w : World) (hw : Wt w B wb L (.slice va vs.length cv)) (hBw : B ≤ w.heap.size) (_hvr : VrIn w (LtB B) va vs.length cv vs)
    (hr : 0 ≤ r ∧ r < 100)  (hxa : ExIn w (LtB B) [u0, u1, u2, u3] xa) (hfa : xa.fit 16 20 = true) (hob : v0.oneCell' = true ∧ v1.oneCell' = true ∧ v2.oneCell' = true ∧ v3.oneCell' = true) (hlen : L.length ≤ 90000000000) :
    Calls Tryz.prog 79 #[.pointer (some ⟨wb, 0, none⟩), .agg #[.int .i64 3, .int .i64 r, .int .i64 v, u0, u1, u2, u3, v0, v1, v2, v3, .slice ta tn tc, .slice ea en ec]] w (PutPost B wb (L ++ (toB r ++ xa.txt ++ [59])) (.slice va vs.length cv) w) := by
  obtain ⟨oa0, oa1, oa2, oa3⟩ := hxa.ones
  have hal := Ex.txt_le hfa
  obtain ⟨ob0, ob1, ob2, ob3⟩ := hob
  generalize hW : w.alloc (.cells #[.int .i64 3, .int .i64 r, .int .i64 v, u0, u1, u2, u3, v0, v1, v2, v3, .slice ta tn tc, .slice ea en ec] 56) = W0
  have hB : Below w.heap.size w W0 := by subst hW; exact (Below.refl _ _).alloc (Nat.le_refl _) _
  have z0 : w.heap.size < W0.heap.size := by subst hW; simp
  have hX : Hid (W0.heap[w.heap.size]? = some (.cells #[.int .i64 3, .int .i64 r, .int .i64 v, u0, u1, u2, u3, v0, v1, v2, v3, .slice ta tn tc, .slice ea en ec] 56 (0, 0))) := by subst hW; exact heap_alloc_new w _
  have c0 : W0.cell? ⟨w.heap.size, 0, none⟩ = some (.int .i64 3) := by subst hW; go_simp
  have c1 : W0.cell? ⟨w.heap.size, 1, none⟩ = some (.int .i64 r) := by subst hW; go_simp
  have c2 : W0.cell? ⟨w.heap.size, 2, none⟩ = some (.int .i64 v) := by subst hW; go_simp
  have c3 : W0.cell? ⟨w.heap.size, 3, none⟩ = some u0 := by subst hW; go_simp
  have c4 : W0.cell? ⟨w.heap.size, 4, none⟩ = some u1 := by subst hW; go_simp
  have c5 : W0.cell? ⟨w.heap.size, 5, none⟩ = some u2 := by subst hW; go_simp
  have c6 : W0.cell? ⟨w.heap.size, 6, none⟩ = some u3 := by subst hW; go_simp
  have c7 : W0.cell? ⟨w.heap.size, 7, none⟩ = some v0 := by subst hW; go_simp
  have c8 : W0.cell? ⟨w.heap.size, 8, none⟩ = some v1 := by subst hW; go_simp
  have c9 : W0.cell? ⟨w.heap.size, 9, none⟩ = some v2 := by subst hW; go_simp
  have c10 : W0.cell? ⟨w.heap.size, 10, none⟩ = some v3 := by subst hW; go_simp
  have c11 : W0.cell? ⟨w.heap.size, 11, none⟩ = some (.slice ta tn tc) := by subst hW; go_simp
  have c12 : W0.cell? ⟨w.heap.size, 12, none⟩ = some (.slice ea en ec) := by subst hW; go_simp
  have Hw0 := hid (hw.below hB)
  have hwl := hw.lt
  have zw : wb < W0.heap.size := by omega
  have hne : w.heap.size ≠ wb := by omega
  have hdg := toB_len r
  have hnm := nmB_len hv v
  have HRd : Hid (∀ W, BW W0 W → Rd w.heap.size wb (.slice va vs.length cv) w.heap.size 0 (.int .i64 3) W0 W) := fun W hb => Rd.below (W := W0) ⟨fun _ => rfl, Hw0.out.c2, c0⟩ hb z0 zw z0
  have HRk : Hid (∀ W W' L', BW W0 W → Wk B wb W W' → Wt W' B wb L' (.slice va vs.length cv) → Rd w.heap.size wb (.slice va vs.length cv) w.heap.size 0 (.int .i64 3) W0 W') := fun W W' L' hb hk hw' => by
    have hXW := (Below.block hb _ z0).trans hX.out
    have hc := fun j => World.cell?_of_block (a := ⟨w.heap.size, j, none⟩) ((hk.cells hXW hne (by decide)).trans hXW.symm)
    have h := HRd.out W hb
    exact ⟨fun j => (hc j).trans (h.1 j), hw'.c2, (hc 0).trans h.2.2⟩
  have HWt : Hid (∀ W, BW W0 W → Wt W B wb L (.slice va vs.length cv)) := fun W hb => Hw0.out.below hb
  have HWk : Hid (∀ W W', BW W0 W → Wk B wb W W' → Wk B wb w W') := fun W W' hb hk => (Wk.of_below (hB.trans (Below.mono hb hB.size)) hBw).trans hk
  have HBs : Hid (∀ W, BW W0 W → B ≤ W.heap.size) := fun W hb => Nat.le_trans hBw (Nat.le_trans hB.size (Below.size hb))
  have hto := hid (fun W => to_any 3 r v u0 u1 u2 u3 v0 v1 v2 v3 (.slice ta tn tc) (.slice ea en ec) hr.1 hr.2 W)
  have hTA : Hid (∀ W, BW W0 W → Calls Tryz.prog 116 #[.agg #[u0, u1, u2, u3]] W fun e w' => e = .returned (.string (strL xa.txt)) ∧ Below W.heap.size W w') := fun W hb => ptext_any (Int.le_refl 16) 20 (Nat.le_refl _) xa hfa [u0, u1, u2, u3] W ((hxa.keep fun b o hb' => (Below.cell (p := ⟨b, o, none⟩) (hB.trans (Below.mono hb hB.size)) (by have h' : b < B := hb'; show b < _; omega))).widen fun b hb' => by have h' : b < B := hb'; have := HBs.out W hb; show b < _; omega)
  obtain ⟨lst, hlst⟩ : ∃ l : List ByteArray, l = [strL (toB r), strL (xa.txt), ⟨#[59]⟩] := ⟨_, rfl⟩
  have hcat : catB lst = toB r ++ xa.txt ++ [59] := by rw [hlst]; simp [catB, strL]
  have hcl : (catB lst).length ≤ 100000000 := by rw [hcat]; first | omega | (simp; done) | (simp; omega)
  have hput := hid (fun W (hb : BW W0 W) => put_lit W (lst.map Value.string).toArray 3 lst (HWt.out W hb) (HBs.out W hb) rfl (by rw [hlst]; rfl) (by omega) (by omega))
  have hmp : (lst.map Value.string).toArray = #[.string (strL (toB r)), .string (strL (xa.txt)), .string ⟨#[59]⟩] := by rw [hlst]; rfl
  rw [hmp] at hput
  have hfin : Hid (catB lst = toB r ++ xa.txt ++ [59]) := hcat
  have hWx := hid hW
  clear hW hB hw _hvr hlst hcat hcl hmp hX Hw0 hdg hnm hv hal hxa hfa
  generalize strL (toB r) = SR at *
  generalize strL (xa.txt) = SA at *
  go_enter Tryz.func79, Tryz.ntmps79
  go_wp2_with fail
  rw [hWx.out]
  have hk0 := BW.start W0
  have hS0 := HRd.out _ hk0
  go_region_held3 (Rd w.heap.size wb (.slice va vs.length cv) w.heap.size 0 (.int .i64 3) W0)
    (first | assumption | exact HRd.out _ (BW.alloc (by assumption) _))
    (first
      | (go_at_call 115
         with_reducible refine (hto.out _).mono ?_
         rintro e w1 ⟨rfl, hb1⟩
         have hk1 : BW W0 w1 := BW.next (by assumption) hb1
         have hS1 := HRd.out _ hk1
         clear hb1)
      | (go_at_call 116
         with_reducible refine (hTA.out _ ?_).mono ?_
         (focus assumption)
         rintro e w2 ⟨rfl, hb2⟩
         have hk2 : BW W0 w2 := BW.next (by assumption) hb2
         have hS2 := HRd.out _ hk2
         clear hb2)
      | (go_at_call 25
         with_reducible refine (hput.out _ ?_).mono ?_
         (focus assumption)
         rintro e w9 ⟨rfl, hw9, hk9⟩
         have hS9 := HRk.out _ _ _ (by assumption) hk9 hw9
         have HW9 := hid hw9
         have HK9 := hid (HWk.out _ _ (by assumption) hk9)
         clear hk9 hw9)
      | fail)
  all_goals
    go_wp2_with fail
    go_end0
    exact ⟨rfl, by have h := HW9.out; rw [hfin.out] at h; first | exact h | simpa using h, HK9.out⟩

set_option maxRecDepth 100000 in
set_option maxHeartbeats 4000000 in
theorem wfence_any (vs : List ByteArray) (hv : vs.all nameB = true) (B wb : Nat) (L : List UInt8) (va : Option Addr) (cv : Nat) (r v : Int) (u0 u1 u2 u3 v0 v1 v2 v3 : Value) (_xa _xb : Ex) (ta ea : Option Addr) (tn en tc ec : Nat) (w : World) (hw : Wt w B wb L (.slice va vs.length cv)) (hBw : B ≤ w.heap.size) (_hvr : VrIn w (LtB B) va vs.length cv vs)
    (_hr : 0 ≤ r ∧ r < 100)  (hoa : u0.oneCell' = true ∧ u1.oneCell' = true ∧ u2.oneCell' = true ∧ u3.oneCell' = true) (hob : v0.oneCell' = true ∧ v1.oneCell' = true ∧ v2.oneCell' = true ∧ v3.oneCell' = true) (hlen : L.length ≤ 90000000000) :
    Calls Tryz.prog 80 #[.pointer (some ⟨wb, 0, none⟩), .agg #[.int .i64 4, .int .i64 r, .int .i64 v, u0, u1, u2, u3, v0, v1, v2, v3, .slice ta tn tc, .slice ea en ec]] w (PutPost B wb (L ++ ([102, 101, 110, 99, 101, 59])) (.slice va vs.length cv) w) := by
  obtain ⟨oa0, oa1, oa2, oa3⟩ := hoa
  obtain ⟨ob0, ob1, ob2, ob3⟩ := hob
  generalize hW : w.alloc (.cells #[.int .i64 4, .int .i64 r, .int .i64 v, u0, u1, u2, u3, v0, v1, v2, v3, .slice ta tn tc, .slice ea en ec] 56) = W0
  have hB : Below w.heap.size w W0 := by subst hW; exact (Below.refl _ _).alloc (Nat.le_refl _) _
  have z0 : w.heap.size < W0.heap.size := by subst hW; simp
  have hX : Hid (W0.heap[w.heap.size]? = some (.cells #[.int .i64 4, .int .i64 r, .int .i64 v, u0, u1, u2, u3, v0, v1, v2, v3, .slice ta tn tc, .slice ea en ec] 56 (0, 0))) := by subst hW; exact heap_alloc_new w _
  have c0 : W0.cell? ⟨w.heap.size, 0, none⟩ = some (.int .i64 4) := by subst hW; go_simp
  have c1 : W0.cell? ⟨w.heap.size, 1, none⟩ = some (.int .i64 r) := by subst hW; go_simp
  have c2 : W0.cell? ⟨w.heap.size, 2, none⟩ = some (.int .i64 v) := by subst hW; go_simp
  have c3 : W0.cell? ⟨w.heap.size, 3, none⟩ = some u0 := by subst hW; go_simp
  have c4 : W0.cell? ⟨w.heap.size, 4, none⟩ = some u1 := by subst hW; go_simp
  have c5 : W0.cell? ⟨w.heap.size, 5, none⟩ = some u2 := by subst hW; go_simp
  have c6 : W0.cell? ⟨w.heap.size, 6, none⟩ = some u3 := by subst hW; go_simp
  have c7 : W0.cell? ⟨w.heap.size, 7, none⟩ = some v0 := by subst hW; go_simp
  have c8 : W0.cell? ⟨w.heap.size, 8, none⟩ = some v1 := by subst hW; go_simp
  have c9 : W0.cell? ⟨w.heap.size, 9, none⟩ = some v2 := by subst hW; go_simp
  have c10 : W0.cell? ⟨w.heap.size, 10, none⟩ = some v3 := by subst hW; go_simp
  have c11 : W0.cell? ⟨w.heap.size, 11, none⟩ = some (.slice ta tn tc) := by subst hW; go_simp
  have c12 : W0.cell? ⟨w.heap.size, 12, none⟩ = some (.slice ea en ec) := by subst hW; go_simp
  have Hw0 := hid (hw.below hB)
  have hwl := hw.lt
  have zw : wb < W0.heap.size := by omega
  have hne : w.heap.size ≠ wb := by omega
  have hdg := toB_len r
  have hnm := nmB_len hv v
  have HRd : Hid (∀ W, BW W0 W → Rd w.heap.size wb (.slice va vs.length cv) w.heap.size 0 (.int .i64 4) W0 W) := fun W hb => Rd.below (W := W0) ⟨fun _ => rfl, Hw0.out.c2, c0⟩ hb z0 zw z0
  have HRk : Hid (∀ W W' L', BW W0 W → Wk B wb W W' → Wt W' B wb L' (.slice va vs.length cv) → Rd w.heap.size wb (.slice va vs.length cv) w.heap.size 0 (.int .i64 4) W0 W') := fun W W' L' hb hk hw' => by
    have hXW := (Below.block hb _ z0).trans hX.out
    have hc := fun j => World.cell?_of_block (a := ⟨w.heap.size, j, none⟩) ((hk.cells hXW hne (by decide)).trans hXW.symm)
    have h := HRd.out W hb
    exact ⟨fun j => (hc j).trans (h.1 j), hw'.c2, (hc 0).trans h.2.2⟩
  have HWt : Hid (∀ W, BW W0 W → Wt W B wb L (.slice va vs.length cv)) := fun W hb => Hw0.out.below hb
  have HWk : Hid (∀ W W', BW W0 W → Wk B wb W W' → Wk B wb w W') := fun W W' hb hk => (Wk.of_below (hB.trans (Below.mono hb hB.size)) hBw).trans hk
  have HBs : Hid (∀ W, BW W0 W → B ≤ W.heap.size) := fun W hb => Nat.le_trans hBw (Nat.le_trans hB.size (Below.size hb))
  obtain ⟨lst, hlst⟩ : ∃ l : List ByteArray, l = [⟨#[102, 101, 110, 99, 101, 59]⟩] := ⟨_, rfl⟩
  have hcat : catB lst = [102, 101, 110, 99, 101, 59] := by rw [hlst]; simp [catB]
  have hcl : (catB lst).length ≤ 100000000 := by rw [hcat]; first | omega | (simp; done) | (simp; omega)
  have hput := hid (fun W (hb : BW W0 W) => put_lit W (lst.map Value.string).toArray 1 lst (HWt.out W hb) (HBs.out W hb) rfl (by rw [hlst]; rfl) (by omega) (by omega))
  have hmp : (lst.map Value.string).toArray = #[.string ⟨#[102, 101, 110, 99, 101, 59]⟩] := by rw [hlst]; rfl
  rw [hmp] at hput
  have hfin : Hid (catB lst = [102, 101, 110, 99, 101, 59]) := hcat
  have hWx := hid hW
  clear hW hB hw _hvr hlst hcat hcl hmp hX Hw0 hdg hnm hv
  go_enter Tryz.func80, Tryz.ntmps80
  skip
  go_upto_region 1 with fail
  rw [hWx.out]
  have hk0 := BW.same W0
  have hS0 := HRd.out _ hk0
  go_wp2_with (first
    | (go_at_call 25
       with_reducible refine (hput.out _ ?_).mono ?_
       (focus assumption)
       rintro e w9 ⟨rfl, hw9, hk9⟩
       have hS9 := HRk.out _ _ _ (by assumption) hk9 hw9
       have HW9 := hid hw9
       have HK9 := hid (HWk.out _ _ (by assumption) hk9)
       clear hk9 hw9)
    | fail)
  go_end0
  exact ⟨rfl, by have h := HW9.out; rw [hfin.out] at h; first | exact h | simpa using h, HK9.out⟩

set_option maxRecDepth 100000 in
set_option maxHeartbeats 4000000 in
theorem wweak_any (vs : List ByteArray) (hv : vs.all nameB = true) (B wb : Nat) (L : List UInt8) (va : Option Addr) (cv : Nat) (r v : Int) (u0 u1 u2 u3 v0 v1 v2 v3 : Value) (_xa _xb : Ex) (ta ea : Option Addr) (tn en tc ec : Nat) (w : World) (hw : Wt w B wb L (.slice va vs.length cv)) (hBw : B ≤ w.heap.size) (_hvr : VrIn w (LtB B) va vs.length cv vs)
    (_hr : 0 ≤ r ∧ r < 100)  (hoa : u0.oneCell' = true ∧ u1.oneCell' = true ∧ u2.oneCell' = true ∧ u3.oneCell' = true) (hob : v0.oneCell' = true ∧ v1.oneCell' = true ∧ v2.oneCell' = true ∧ v3.oneCell' = true) (hlen : L.length ≤ 90000000000) :
    Calls Tryz.prog 81 #[.pointer (some ⟨wb, 0, none⟩), .agg #[.int .i64 5, .int .i64 r, .int .i64 v, u0, u1, u2, u3, v0, v1, v2, v3, .slice ta tn tc, .slice ea en ec]] w (PutPost B wb (L ++ ([115, 102, 101, 110, 99, 101, 59])) (.slice va vs.length cv) w) := by
  obtain ⟨oa0, oa1, oa2, oa3⟩ := hoa
  obtain ⟨ob0, ob1, ob2, ob3⟩ := hob
  generalize hW : w.alloc (.cells #[.int .i64 5, .int .i64 r, .int .i64 v, u0, u1, u2, u3, v0, v1, v2, v3, .slice ta tn tc, .slice ea en ec] 56) = W0
  have hB : Below w.heap.size w W0 := by subst hW; exact (Below.refl _ _).alloc (Nat.le_refl _) _
  have z0 : w.heap.size < W0.heap.size := by subst hW; simp
  have hX : Hid (W0.heap[w.heap.size]? = some (.cells #[.int .i64 5, .int .i64 r, .int .i64 v, u0, u1, u2, u3, v0, v1, v2, v3, .slice ta tn tc, .slice ea en ec] 56 (0, 0))) := by subst hW; exact heap_alloc_new w _
  have c0 : W0.cell? ⟨w.heap.size, 0, none⟩ = some (.int .i64 5) := by subst hW; go_simp
  have c1 : W0.cell? ⟨w.heap.size, 1, none⟩ = some (.int .i64 r) := by subst hW; go_simp
  have c2 : W0.cell? ⟨w.heap.size, 2, none⟩ = some (.int .i64 v) := by subst hW; go_simp
  have c3 : W0.cell? ⟨w.heap.size, 3, none⟩ = some u0 := by subst hW; go_simp
  have c4 : W0.cell? ⟨w.heap.size, 4, none⟩ = some u1 := by subst hW; go_simp
  have c5 : W0.cell? ⟨w.heap.size, 5, none⟩ = some u2 := by subst hW; go_simp
  have c6 : W0.cell? ⟨w.heap.size, 6, none⟩ = some u3 := by subst hW; go_simp
  have c7 : W0.cell? ⟨w.heap.size, 7, none⟩ = some v0 := by subst hW; go_simp
  have c8 : W0.cell? ⟨w.heap.size, 8, none⟩ = some v1 := by subst hW; go_simp
  have c9 : W0.cell? ⟨w.heap.size, 9, none⟩ = some v2 := by subst hW; go_simp
  have c10 : W0.cell? ⟨w.heap.size, 10, none⟩ = some v3 := by subst hW; go_simp
  have c11 : W0.cell? ⟨w.heap.size, 11, none⟩ = some (.slice ta tn tc) := by subst hW; go_simp
  have c12 : W0.cell? ⟨w.heap.size, 12, none⟩ = some (.slice ea en ec) := by subst hW; go_simp
  have Hw0 := hid (hw.below hB)
  have hwl := hw.lt
  have zw : wb < W0.heap.size := by omega
  have hne : w.heap.size ≠ wb := by omega
  have hdg := toB_len r
  have hnm := nmB_len hv v
  have HRd : Hid (∀ W, BW W0 W → Rd w.heap.size wb (.slice va vs.length cv) w.heap.size 0 (.int .i64 5) W0 W) := fun W hb => Rd.below (W := W0) ⟨fun _ => rfl, Hw0.out.c2, c0⟩ hb z0 zw z0
  have HRk : Hid (∀ W W' L', BW W0 W → Wk B wb W W' → Wt W' B wb L' (.slice va vs.length cv) → Rd w.heap.size wb (.slice va vs.length cv) w.heap.size 0 (.int .i64 5) W0 W') := fun W W' L' hb hk hw' => by
    have hXW := (Below.block hb _ z0).trans hX.out
    have hc := fun j => World.cell?_of_block (a := ⟨w.heap.size, j, none⟩) ((hk.cells hXW hne (by decide)).trans hXW.symm)
    have h := HRd.out W hb
    exact ⟨fun j => (hc j).trans (h.1 j), hw'.c2, (hc 0).trans h.2.2⟩
  have HWt : Hid (∀ W, BW W0 W → Wt W B wb L (.slice va vs.length cv)) := fun W hb => Hw0.out.below hb
  have HWk : Hid (∀ W W', BW W0 W → Wk B wb W W' → Wk B wb w W') := fun W W' hb hk => (Wk.of_below (hB.trans (Below.mono hb hB.size)) hBw).trans hk
  have HBs : Hid (∀ W, BW W0 W → B ≤ W.heap.size) := fun W hb => Nat.le_trans hBw (Nat.le_trans hB.size (Below.size hb))
  obtain ⟨lst, hlst⟩ : ∃ l : List ByteArray, l = [⟨#[115, 102, 101, 110, 99, 101, 59]⟩] := ⟨_, rfl⟩
  have hcat : catB lst = [115, 102, 101, 110, 99, 101, 59] := by rw [hlst]; simp [catB]
  have hcl : (catB lst).length ≤ 100000000 := by rw [hcat]; first | omega | (simp; done) | (simp; omega)
  have hput := hid (fun W (hb : BW W0 W) => put_lit W (lst.map Value.string).toArray 1 lst (HWt.out W hb) (HBs.out W hb) rfl (by rw [hlst]; rfl) (by omega) (by omega))
  have hmp : (lst.map Value.string).toArray = #[.string ⟨#[115, 102, 101, 110, 99, 101, 59]⟩] := by rw [hlst]; rfl
  rw [hmp] at hput
  have hfin : Hid (catB lst = [115, 102, 101, 110, 99, 101, 59]) := hcat
  have hWx := hid hW
  clear hW hB hw _hvr hlst hcat hcl hmp hX Hw0 hdg hnm hv
  go_enter Tryz.func81, Tryz.ntmps81
  skip
  go_upto_region 1 with fail
  rw [hWx.out]
  have hk0 := BW.same W0
  have hS0 := HRd.out _ hk0
  go_wp2_with (first
    | (go_at_call 25
       with_reducible refine (hput.out _ ?_).mono ?_
       (focus assumption)
       rintro e w9 ⟨rfl, hw9, hk9⟩
       have hS9 := HRk.out _ _ _ (by assumption) hk9 hw9
       have HW9 := hid hw9
       have HK9 := hid (HWk.out _ _ (by assumption) hk9)
       clear hk9 hw9)
    | fail)
  go_end0
  exact ⟨rfl, by have h := HW9.out; rw [hfin.out] at h; first | exact h | simpa using h, HK9.out⟩

set_option maxRecDepth 100000 in
set_option maxHeartbeats 4000000 in
theorem wcas_any (vs : List ByteArray) (hv : vs.all nameB = true) (B wb : Nat) (L : List UInt8) (va : Option Addr) (cv : Nat) (r v : Int) (u0 u1 u2 u3 v0 v1 v2 v3 : Value) (xa xb : Ex) (ta ea : Option Addr) (tn en tc ec : Nat) (w : World) (hw : Wt w B wb L (.slice va vs.length cv)) (hBw : B ≤ w.heap.size) (hvr : VrIn w (LtB B) va vs.length cv vs)
    (hr : 0 ≤ r ∧ r < 100) (hvn : 0 ≤ v ∧ v < vs.length) (hxa : ExIn w (LtB B) [u0, u1, u2, u3] xa) (hfa : xa.fit 16 20 = true) (hxb : ExIn w (LtB B) [v0, v1, v2, v3] xb) (hfb : xb.fit 16 20 = true) (hlen : L.length ≤ 90000000000) :
    Calls Tryz.prog 82 #[.pointer (some ⟨wb, 0, none⟩), .agg #[.int .i64 6, .int .i64 r, .int .i64 v, u0, u1, u2, u3, v0, v1, v2, v3, .slice ta tn tc, .slice ea en ec]] w (PutPost B wb (L ++ (toB r ++ [99, 97, 115, 40] ++ nmB vs v ++ [44, 32] ++ xa.txt ++ [44, 32] ++ xb.txt ++ [41, 59])) (.slice va vs.length cv) w) := by
  obtain ⟨oa0, oa1, oa2, oa3⟩ := hxa.ones
  have hal := Ex.txt_le hfa
  obtain ⟨ob0, ob1, ob2, ob3⟩ := hxb.ones
  have hbl := Ex.txt_le hfb
  generalize hW : w.alloc (.cells #[.int .i64 6, .int .i64 r, .int .i64 v, u0, u1, u2, u3, v0, v1, v2, v3, .slice ta tn tc, .slice ea en ec] 56) = W0
  have hB : Below w.heap.size w W0 := by subst hW; exact (Below.refl _ _).alloc (Nat.le_refl _) _
  have z0 : w.heap.size < W0.heap.size := by subst hW; simp
  have hX : Hid (W0.heap[w.heap.size]? = some (.cells #[.int .i64 6, .int .i64 r, .int .i64 v, u0, u1, u2, u3, v0, v1, v2, v3, .slice ta tn tc, .slice ea en ec] 56 (0, 0))) := by subst hW; exact heap_alloc_new w _
  have c0 : W0.cell? ⟨w.heap.size, 0, none⟩ = some (.int .i64 6) := by subst hW; go_simp
  have c1 : W0.cell? ⟨w.heap.size, 1, none⟩ = some (.int .i64 r) := by subst hW; go_simp
  have c2 : W0.cell? ⟨w.heap.size, 2, none⟩ = some (.int .i64 v) := by subst hW; go_simp
  have c3 : W0.cell? ⟨w.heap.size, 3, none⟩ = some u0 := by subst hW; go_simp
  have c4 : W0.cell? ⟨w.heap.size, 4, none⟩ = some u1 := by subst hW; go_simp
  have c5 : W0.cell? ⟨w.heap.size, 5, none⟩ = some u2 := by subst hW; go_simp
  have c6 : W0.cell? ⟨w.heap.size, 6, none⟩ = some u3 := by subst hW; go_simp
  have c7 : W0.cell? ⟨w.heap.size, 7, none⟩ = some v0 := by subst hW; go_simp
  have c8 : W0.cell? ⟨w.heap.size, 8, none⟩ = some v1 := by subst hW; go_simp
  have c9 : W0.cell? ⟨w.heap.size, 9, none⟩ = some v2 := by subst hW; go_simp
  have c10 : W0.cell? ⟨w.heap.size, 10, none⟩ = some v3 := by subst hW; go_simp
  have c11 : W0.cell? ⟨w.heap.size, 11, none⟩ = some (.slice ta tn tc) := by subst hW; go_simp
  have c12 : W0.cell? ⟨w.heap.size, 12, none⟩ = some (.slice ea en ec) := by subst hW; go_simp
  have Hw0 := hid (hw.below hB)
  have hwl := hw.lt
  have zw : wb < W0.heap.size := by omega
  have hne : w.heap.size ≠ wb := by omega
  have hdg := toB_len r
  have hnm := nmB_len hv v
  obtain ⟨vn, e⟩ : ∃ vn : Nat, v = vn := ⟨v.toNat, by omega⟩
  subst e
  obtain ⟨vb, vo, rfl, hvb, y0⟩ := hvr.at_ vn (by omega)
  have hvb' : vb < B := hvb
  have hnv : strL (nmB vs vn) = vs[vn] := by unfold nmB; rw [Int.toNat_natCast, List.getElem?_eq_getElem (by omega), Option.getD_some]; exact strL_data _
  rw [← hnv] at y0
  have y1 : W0.cell? ⟨vb, vo + vn, none⟩ = some (.string (strL (nmB vs vn))) := (hB.cell (p := ⟨vb, vo + vn, none⟩) (by show vb < _; omega)).trans y0
  have q0 : (0 : Int) ≤ (vn : Int) := by omega
  have q1 : (vn : Int) < vs.length := by omega
  have hcv := hvr.le
  have HRd : Hid (∀ W, BW W0 W → Rd w.heap.size wb (.slice (some ⟨vb, vo, none⟩) vs.length cv) vb (vo + vn) (.string (strL (nmB vs vn))) W0 W) := fun W hb => Rd.below (W := W0) ⟨fun _ => rfl, Hw0.out.c2, y1⟩ hb z0 zw (by omega)
  have HRk : Hid (∀ W W' L', BW W0 W → Wk B wb W W' → Wt W' B wb L' (.slice (some ⟨vb, vo, none⟩) vs.length cv) → Rd w.heap.size wb (.slice (some ⟨vb, vo, none⟩) vs.length cv) vb (vo + vn) (.string (strL (nmB vs vn))) W0 W') := fun W W' L' hb hk hw' => Rd.wk (HRd.out W hb) hk ((Below.block hb _ z0).trans hX.out) (by decide) hne hw' hvb'
  have HWt : Hid (∀ W, BW W0 W → Wt W B wb L (.slice (some ⟨vb, vo, none⟩) vs.length cv)) := fun W hb => Hw0.out.below hb
  have HWk : Hid (∀ W W', BW W0 W → Wk B wb W W' → Wk B wb w W') := fun W W' hb hk => (Wk.of_below (hB.trans (Below.mono hb hB.size)) hBw).trans hk
  have HBs : Hid (∀ W, BW W0 W → B ≤ W.heap.size) := fun W hb => Nat.le_trans hBw (Nat.le_trans hB.size (Below.size hb))
  have hto := hid (fun W => to_any 6 r vn u0 u1 u2 u3 v0 v1 v2 v3 (.slice ta tn tc) (.slice ea en ec) hr.1 hr.2 W)
  have hTA : Hid (∀ W, BW W0 W → Calls Tryz.prog 116 #[.agg #[u0, u1, u2, u3]] W fun e w' => e = .returned (.string (strL xa.txt)) ∧ Below W.heap.size W w') := fun W hb => ptext_any (Int.le_refl 16) 20 (Nat.le_refl _) xa hfa [u0, u1, u2, u3] W ((hxa.keep fun b o hb' => (Below.cell (p := ⟨b, o, none⟩) (hB.trans (Below.mono hb hB.size)) (by have h' : b < B := hb'; show b < _; omega))).widen fun b hb' => by have h' : b < B := hb'; have := HBs.out W hb; show b < _; omega)
  have hTB : Hid (∀ W, BW W0 W → Calls Tryz.prog 116 #[.agg #[v0, v1, v2, v3]] W fun e w' => e = .returned (.string (strL xb.txt)) ∧ Below W.heap.size W w') := fun W hb => ptext_any (Int.le_refl 16) 20 (Nat.le_refl _) xb hfb [v0, v1, v2, v3] W ((hxb.keep fun b o hb' => (Below.cell (p := ⟨b, o, none⟩) (hB.trans (Below.mono hb hB.size)) (by have h' : b < B := hb'; show b < _; omega))).widen fun b hb' => by have h' : b < B := hb'; have := HBs.out W hb; show b < _; omega)
  obtain ⟨lst, hlst⟩ : ∃ l : List ByteArray, l = [strL (toB r), ⟨#[99, 97, 115, 40]⟩, strL (nmB vs vn), ⟨#[44, 32]⟩, strL (xa.txt), ⟨#[44, 32]⟩, strL (xb.txt), ⟨#[41, 59]⟩] := ⟨_, rfl⟩
  have hcat : catB lst = toB r ++ [99, 97, 115, 40] ++ nmB vs vn ++ [44, 32] ++ xa.txt ++ [44, 32] ++ xb.txt ++ [41, 59] := by rw [hlst]; simp [catB, strL]
  have hcl : (catB lst).length ≤ 100000000 := by rw [hcat]; first | omega | (simp; done) | (simp; omega)
  have hput := hid (fun W (hb : BW W0 W) => put_lit W (lst.map Value.string).toArray 8 lst (HWt.out W hb) (HBs.out W hb) rfl (by rw [hlst]; rfl) (by omega) (by omega))
  have hmp : (lst.map Value.string).toArray = #[.string (strL (toB r)), .string ⟨#[99, 97, 115, 40]⟩, .string (strL (nmB vs vn)), .string ⟨#[44, 32]⟩, .string (strL (xa.txt)), .string ⟨#[44, 32]⟩, .string (strL (xb.txt)), .string ⟨#[41, 59]⟩] := by rw [hlst]; rfl
  rw [hmp] at hput
  have hfin : Hid (catB lst = toB r ++ [99, 97, 115, 40] ++ nmB vs vn ++ [44, 32] ++ xa.txt ++ [44, 32] ++ xb.txt ++ [41, 59]) := hcat
  have hWx := hid hW
  clear hW hB hw hvr hlst hcat hcl hmp hX Hw0 hdg hnm hv hal hbl y0 hnv hxa hfa hxb hfb
  generalize strL (toB r) = SR at *
  generalize strL (nmB vs vn) = SN at *
  generalize strL (xa.txt) = SA at *
  generalize strL (xb.txt) = SB at *
  go_enter Tryz.func82, Tryz.ntmps82
  go_wp2_with fail
  rw [hWx.out]
  have hk0 := BW.start W0
  have hS0 := HRd.out _ hk0
  go_region_held3 (Rd w.heap.size wb (.slice (some ⟨vb, vo, none⟩) vs.length cv) vb (vo + vn) (.string (SN)) W0)
    (first | assumption | exact HRd.out _ (BW.alloc (by assumption) _))
    (first
      | (go_at_call 115
         with_reducible refine (hto.out _).mono ?_
         rintro e w1 ⟨rfl, hb1⟩
         have hk1 : BW W0 w1 := BW.next (by assumption) hb1
         have hS1 := HRd.out _ hk1
         clear hb1)
      | (go_at_call 116
         with_reducible refine (hTA.out _ ?_).mono ?_
         (focus assumption)
         rintro e w2 ⟨rfl, hb2⟩
         have hk2 : BW W0 w2 := BW.next (by assumption) hb2
         have hS2 := HRd.out _ hk2
         clear hb2)
      | (go_at_call 116
         with_reducible refine (hTB.out _ ?_).mono ?_
         (focus assumption)
         rintro e w3 ⟨rfl, hb3⟩
         have hk3 : BW W0 w3 := BW.next (by assumption) hb3
         have hS3 := HRd.out _ hk3
         clear hb3)
      | (go_at_call 25
         with_reducible refine (hput.out _ ?_).mono ?_
         (focus assumption)
         rintro e w9 ⟨rfl, hw9, hk9⟩
         have hS9 := HRk.out _ _ _ (by assumption) hk9 hw9
         have HW9 := hid hw9
         have HK9 := hid (HWk.out _ _ (by assumption) hk9)
         clear hk9 hw9)
      | fail)
  all_goals
    go_wp2_with fail
    go_end0
    exact ⟨rfl, by have h := HW9.out; rw [hfin.out] at h; first | exact h | simpa using h, HK9.out⟩

set_option maxRecDepth 100000 in
set_option maxHeartbeats 4000000 in
theorem wlock_any (vs : List ByteArray) (hv : vs.all nameB = true) (B wb : Nat) (L : List UInt8) (va : Option Addr) (cv : Nat) (r v : Int) (u0 u1 u2 u3 v0 v1 v2 v3 : Value) (_xa _xb : Ex) (ta ea : Option Addr) (tn en tc ec : Nat) (w : World) (hw : Wt w B wb L (.slice va vs.length cv)) (hBw : B ≤ w.heap.size) (hvr : VrIn w (LtB B) va vs.length cv vs)
    (_hr : 0 ≤ r ∧ r < 100) (hvn : 0 ≤ v ∧ v < vs.length) (hoa : u0.oneCell' = true ∧ u1.oneCell' = true ∧ u2.oneCell' = true ∧ u3.oneCell' = true) (hob : v0.oneCell' = true ∧ v1.oneCell' = true ∧ v2.oneCell' = true ∧ v3.oneCell' = true) (hlen : L.length ≤ 90000000000) :
    Calls Tryz.prog 83 #[.pointer (some ⟨wb, 0, none⟩), .agg #[.int .i64 7, .int .i64 r, .int .i64 v, u0, u1, u2, u3, v0, v1, v2, v3, .slice ta tn tc, .slice ea en ec]] w (PutPost B wb (L ++ ([108, 111, 99, 107, 32] ++ nmB vs v ++ [59])) (.slice va vs.length cv) w) := by
  obtain ⟨oa0, oa1, oa2, oa3⟩ := hoa
  obtain ⟨ob0, ob1, ob2, ob3⟩ := hob
  generalize hW : w.alloc (.cells #[.int .i64 7, .int .i64 r, .int .i64 v, u0, u1, u2, u3, v0, v1, v2, v3, .slice ta tn tc, .slice ea en ec] 56) = W0
  have hB : Below w.heap.size w W0 := by subst hW; exact (Below.refl _ _).alloc (Nat.le_refl _) _
  have z0 : w.heap.size < W0.heap.size := by subst hW; simp
  have hX : Hid (W0.heap[w.heap.size]? = some (.cells #[.int .i64 7, .int .i64 r, .int .i64 v, u0, u1, u2, u3, v0, v1, v2, v3, .slice ta tn tc, .slice ea en ec] 56 (0, 0))) := by subst hW; exact heap_alloc_new w _
  have c0 : W0.cell? ⟨w.heap.size, 0, none⟩ = some (.int .i64 7) := by subst hW; go_simp
  have c1 : W0.cell? ⟨w.heap.size, 1, none⟩ = some (.int .i64 r) := by subst hW; go_simp
  have c2 : W0.cell? ⟨w.heap.size, 2, none⟩ = some (.int .i64 v) := by subst hW; go_simp
  have c3 : W0.cell? ⟨w.heap.size, 3, none⟩ = some u0 := by subst hW; go_simp
  have c4 : W0.cell? ⟨w.heap.size, 4, none⟩ = some u1 := by subst hW; go_simp
  have c5 : W0.cell? ⟨w.heap.size, 5, none⟩ = some u2 := by subst hW; go_simp
  have c6 : W0.cell? ⟨w.heap.size, 6, none⟩ = some u3 := by subst hW; go_simp
  have c7 : W0.cell? ⟨w.heap.size, 7, none⟩ = some v0 := by subst hW; go_simp
  have c8 : W0.cell? ⟨w.heap.size, 8, none⟩ = some v1 := by subst hW; go_simp
  have c9 : W0.cell? ⟨w.heap.size, 9, none⟩ = some v2 := by subst hW; go_simp
  have c10 : W0.cell? ⟨w.heap.size, 10, none⟩ = some v3 := by subst hW; go_simp
  have c11 : W0.cell? ⟨w.heap.size, 11, none⟩ = some (.slice ta tn tc) := by subst hW; go_simp
  have c12 : W0.cell? ⟨w.heap.size, 12, none⟩ = some (.slice ea en ec) := by subst hW; go_simp
  have Hw0 := hid (hw.below hB)
  have hwl := hw.lt
  have zw : wb < W0.heap.size := by omega
  have hne : w.heap.size ≠ wb := by omega
  have hdg := toB_len r
  have hnm := nmB_len hv v
  obtain ⟨vn, e⟩ : ∃ vn : Nat, v = vn := ⟨v.toNat, by omega⟩
  subst e
  obtain ⟨vb, vo, rfl, hvb, y0⟩ := hvr.at_ vn (by omega)
  have hvb' : vb < B := hvb
  have hnv : strL (nmB vs vn) = vs[vn] := by unfold nmB; rw [Int.toNat_natCast, List.getElem?_eq_getElem (by omega), Option.getD_some]; exact strL_data _
  rw [← hnv] at y0
  have y1 : W0.cell? ⟨vb, vo + vn, none⟩ = some (.string (strL (nmB vs vn))) := (hB.cell (p := ⟨vb, vo + vn, none⟩) (by show vb < _; omega)).trans y0
  have q0 : (0 : Int) ≤ (vn : Int) := by omega
  have q1 : (vn : Int) < vs.length := by omega
  have hcv := hvr.le
  have HRd : Hid (∀ W, BW W0 W → Rd w.heap.size wb (.slice (some ⟨vb, vo, none⟩) vs.length cv) vb (vo + vn) (.string (strL (nmB vs vn))) W0 W) := fun W hb => Rd.below (W := W0) ⟨fun _ => rfl, Hw0.out.c2, y1⟩ hb z0 zw (by omega)
  have HRk : Hid (∀ W W' L', BW W0 W → Wk B wb W W' → Wt W' B wb L' (.slice (some ⟨vb, vo, none⟩) vs.length cv) → Rd w.heap.size wb (.slice (some ⟨vb, vo, none⟩) vs.length cv) vb (vo + vn) (.string (strL (nmB vs vn))) W0 W') := fun W W' L' hb hk hw' => Rd.wk (HRd.out W hb) hk ((Below.block hb _ z0).trans hX.out) (by decide) hne hw' hvb'
  have HWt : Hid (∀ W, BW W0 W → Wt W B wb L (.slice (some ⟨vb, vo, none⟩) vs.length cv)) := fun W hb => Hw0.out.below hb
  have HWk : Hid (∀ W W', BW W0 W → Wk B wb W W' → Wk B wb w W') := fun W W' hb hk => (Wk.of_below (hB.trans (Below.mono hb hB.size)) hBw).trans hk
  have HBs : Hid (∀ W, BW W0 W → B ≤ W.heap.size) := fun W hb => Nat.le_trans hBw (Nat.le_trans hB.size (Below.size hb))
  obtain ⟨lst, hlst⟩ : ∃ l : List ByteArray, l = [⟨#[108, 111, 99, 107, 32]⟩, strL (nmB vs vn), ⟨#[59]⟩] := ⟨_, rfl⟩
  have hcat : catB lst = [108, 111, 99, 107, 32] ++ nmB vs vn ++ [59] := by rw [hlst]; simp [catB, strL]
  have hcl : (catB lst).length ≤ 100000000 := by rw [hcat]; first | omega | (simp; done) | (simp; omega)
  have hput := hid (fun W (hb : BW W0 W) => put_lit W (lst.map Value.string).toArray 3 lst (HWt.out W hb) (HBs.out W hb) rfl (by rw [hlst]; rfl) (by omega) (by omega))
  have hmp : (lst.map Value.string).toArray = #[.string ⟨#[108, 111, 99, 107, 32]⟩, .string (strL (nmB vs vn)), .string ⟨#[59]⟩] := by rw [hlst]; rfl
  rw [hmp] at hput
  have hput0 := hput.out _ (BW.start W0)
  have hput1 : Hid (Calls Tryz.prog 25 #[.pointer (some ⟨wb, 0, none⟩), .slice (some ⟨W0.heap.size, 0, none⟩) 3 3] (W0.alloc (.cells #[.string ⟨#[108, 111, 99, 107, 32]⟩, .string (strL (nmB vs vn)), .string ⟨#[59]⟩] 9)).drew fun e w' => e = .returned (.tuple #[]) ∧ Wt w' B wb (L ++ catB lst) (.slice (some ⟨vb, vo, none⟩) vs.length cv) ∧ Wk B wb W0.drew w') := hput0
  clear hput0
  have hfin : Hid (catB lst = [108, 111, 99, 107, 32] ++ nmB vs vn ++ [59]) := hcat
  have hWx := hid hW
  clear hW hB hw hvr hlst hcat hcl hmp hX Hw0 hdg hnm hv y0 hnv
  generalize strL (nmB vs vn) = SN at *
  go_enter Tryz.func83, Tryz.ntmps83
  go_wp2_with fail
  rw [hWx.out]
  have hk0 := BW.start W0
  have hS0 := HRd.out _ hk0
  go_region_held3 (Rd w.heap.size wb (.slice (some ⟨vb, vo, none⟩) vs.length cv) vb (vo + vn) (.string (SN)) W0)
    (first | assumption | exact HRd.out _ (BW.alloc (by assumption) _))
    (first
      | (go_at_call 25
         with_reducible refine hput1.out.mono ?_
         rintro e w9 ⟨rfl, hw9, hk9⟩
         have hS9 := HRk.out _ _ _ (by assumption) hk9 hw9
         have HW9 := hid hw9
         have HK9 := hid (HWk.out _ _ (by assumption) hk9)
         clear hk9 hw9)
      | fail)
  all_goals
    go_wp2_with fail
    go_end0
    exact ⟨rfl, by have h := HW9.out; rw [hfin.out] at h; first | exact h | simpa using h, HK9.out⟩

set_option maxRecDepth 100000 in
set_option maxHeartbeats 4000000 in
theorem wunlock_any (vs : List ByteArray) (hv : vs.all nameB = true) (B wb : Nat) (L : List UInt8) (va : Option Addr) (cv : Nat) (r v : Int) (u0 u1 u2 u3 v0 v1 v2 v3 : Value) (_xa _xb : Ex) (ta ea : Option Addr) (tn en tc ec : Nat) (w : World) (hw : Wt w B wb L (.slice va vs.length cv)) (hBw : B ≤ w.heap.size) (hvr : VrIn w (LtB B) va vs.length cv vs)
    (_hr : 0 ≤ r ∧ r < 100) (hvn : 0 ≤ v ∧ v < vs.length) (hoa : u0.oneCell' = true ∧ u1.oneCell' = true ∧ u2.oneCell' = true ∧ u3.oneCell' = true) (hob : v0.oneCell' = true ∧ v1.oneCell' = true ∧ v2.oneCell' = true ∧ v3.oneCell' = true) (hlen : L.length ≤ 90000000000) :
    Calls Tryz.prog 84 #[.pointer (some ⟨wb, 0, none⟩), .agg #[.int .i64 8, .int .i64 r, .int .i64 v, u0, u1, u2, u3, v0, v1, v2, v3, .slice ta tn tc, .slice ea en ec]] w (PutPost B wb (L ++ ([117, 110, 108, 111, 99, 107, 32] ++ nmB vs v ++ [59])) (.slice va vs.length cv) w) := by
  obtain ⟨oa0, oa1, oa2, oa3⟩ := hoa
  obtain ⟨ob0, ob1, ob2, ob3⟩ := hob
  generalize hW : w.alloc (.cells #[.int .i64 8, .int .i64 r, .int .i64 v, u0, u1, u2, u3, v0, v1, v2, v3, .slice ta tn tc, .slice ea en ec] 56) = W0
  have hB : Below w.heap.size w W0 := by subst hW; exact (Below.refl _ _).alloc (Nat.le_refl _) _
  have z0 : w.heap.size < W0.heap.size := by subst hW; simp
  have hX : Hid (W0.heap[w.heap.size]? = some (.cells #[.int .i64 8, .int .i64 r, .int .i64 v, u0, u1, u2, u3, v0, v1, v2, v3, .slice ta tn tc, .slice ea en ec] 56 (0, 0))) := by subst hW; exact heap_alloc_new w _
  have c0 : W0.cell? ⟨w.heap.size, 0, none⟩ = some (.int .i64 8) := by subst hW; go_simp
  have c1 : W0.cell? ⟨w.heap.size, 1, none⟩ = some (.int .i64 r) := by subst hW; go_simp
  have c2 : W0.cell? ⟨w.heap.size, 2, none⟩ = some (.int .i64 v) := by subst hW; go_simp
  have c3 : W0.cell? ⟨w.heap.size, 3, none⟩ = some u0 := by subst hW; go_simp
  have c4 : W0.cell? ⟨w.heap.size, 4, none⟩ = some u1 := by subst hW; go_simp
  have c5 : W0.cell? ⟨w.heap.size, 5, none⟩ = some u2 := by subst hW; go_simp
  have c6 : W0.cell? ⟨w.heap.size, 6, none⟩ = some u3 := by subst hW; go_simp
  have c7 : W0.cell? ⟨w.heap.size, 7, none⟩ = some v0 := by subst hW; go_simp
  have c8 : W0.cell? ⟨w.heap.size, 8, none⟩ = some v1 := by subst hW; go_simp
  have c9 : W0.cell? ⟨w.heap.size, 9, none⟩ = some v2 := by subst hW; go_simp
  have c10 : W0.cell? ⟨w.heap.size, 10, none⟩ = some v3 := by subst hW; go_simp
  have c11 : W0.cell? ⟨w.heap.size, 11, none⟩ = some (.slice ta tn tc) := by subst hW; go_simp
  have c12 : W0.cell? ⟨w.heap.size, 12, none⟩ = some (.slice ea en ec) := by subst hW; go_simp
  have Hw0 := hid (hw.below hB)
  have hwl := hw.lt
  have zw : wb < W0.heap.size := by omega
  have hne : w.heap.size ≠ wb := by omega
  have hdg := toB_len r
  have hnm := nmB_len hv v
  obtain ⟨vn, e⟩ : ∃ vn : Nat, v = vn := ⟨v.toNat, by omega⟩
  subst e
  obtain ⟨vb, vo, rfl, hvb, y0⟩ := hvr.at_ vn (by omega)
  have hvb' : vb < B := hvb
  have hnv : strL (nmB vs vn) = vs[vn] := by unfold nmB; rw [Int.toNat_natCast, List.getElem?_eq_getElem (by omega), Option.getD_some]; exact strL_data _
  rw [← hnv] at y0
  have y1 : W0.cell? ⟨vb, vo + vn, none⟩ = some (.string (strL (nmB vs vn))) := (hB.cell (p := ⟨vb, vo + vn, none⟩) (by show vb < _; omega)).trans y0
  have q0 : (0 : Int) ≤ (vn : Int) := by omega
  have q1 : (vn : Int) < vs.length := by omega
  have hcv := hvr.le
  have HRd : Hid (∀ W, BW W0 W → Rd w.heap.size wb (.slice (some ⟨vb, vo, none⟩) vs.length cv) vb (vo + vn) (.string (strL (nmB vs vn))) W0 W) := fun W hb => Rd.below (W := W0) ⟨fun _ => rfl, Hw0.out.c2, y1⟩ hb z0 zw (by omega)
  have HRk : Hid (∀ W W' L', BW W0 W → Wk B wb W W' → Wt W' B wb L' (.slice (some ⟨vb, vo, none⟩) vs.length cv) → Rd w.heap.size wb (.slice (some ⟨vb, vo, none⟩) vs.length cv) vb (vo + vn) (.string (strL (nmB vs vn))) W0 W') := fun W W' L' hb hk hw' => Rd.wk (HRd.out W hb) hk ((Below.block hb _ z0).trans hX.out) (by decide) hne hw' hvb'
  have HWt : Hid (∀ W, BW W0 W → Wt W B wb L (.slice (some ⟨vb, vo, none⟩) vs.length cv)) := fun W hb => Hw0.out.below hb
  have HWk : Hid (∀ W W', BW W0 W → Wk B wb W W' → Wk B wb w W') := fun W W' hb hk => (Wk.of_below (hB.trans (Below.mono hb hB.size)) hBw).trans hk
  have HBs : Hid (∀ W, BW W0 W → B ≤ W.heap.size) := fun W hb => Nat.le_trans hBw (Nat.le_trans hB.size (Below.size hb))
  obtain ⟨lst, hlst⟩ : ∃ l : List ByteArray, l = [⟨#[117, 110, 108, 111, 99, 107, 32]⟩, strL (nmB vs vn), ⟨#[59]⟩] := ⟨_, rfl⟩
  have hcat : catB lst = [117, 110, 108, 111, 99, 107, 32] ++ nmB vs vn ++ [59] := by rw [hlst]; simp [catB, strL]
  have hcl : (catB lst).length ≤ 100000000 := by rw [hcat]; first | omega | (simp; done) | (simp; omega)
  have hput := hid (fun W (hb : BW W0 W) => put_lit W (lst.map Value.string).toArray 3 lst (HWt.out W hb) (HBs.out W hb) rfl (by rw [hlst]; rfl) (by omega) (by omega))
  have hmp : (lst.map Value.string).toArray = #[.string ⟨#[117, 110, 108, 111, 99, 107, 32]⟩, .string (strL (nmB vs vn)), .string ⟨#[59]⟩] := by rw [hlst]; rfl
  rw [hmp] at hput
  have hput0 := hput.out _ (BW.start W0)
  have hput1 : Hid (Calls Tryz.prog 25 #[.pointer (some ⟨wb, 0, none⟩), .slice (some ⟨W0.heap.size, 0, none⟩) 3 3] (W0.alloc (.cells #[.string ⟨#[117, 110, 108, 111, 99, 107, 32]⟩, .string (strL (nmB vs vn)), .string ⟨#[59]⟩] 9)).drew fun e w' => e = .returned (.tuple #[]) ∧ Wt w' B wb (L ++ catB lst) (.slice (some ⟨vb, vo, none⟩) vs.length cv) ∧ Wk B wb W0.drew w') := hput0
  clear hput0
  have hfin : Hid (catB lst = [117, 110, 108, 111, 99, 107, 32] ++ nmB vs vn ++ [59]) := hcat
  have hWx := hid hW
  clear hW hB hw hvr hlst hcat hcl hmp hX Hw0 hdg hnm hv y0 hnv
  generalize strL (nmB vs vn) = SN at *
  go_enter Tryz.func84, Tryz.ntmps84
  go_wp2_with fail
  rw [hWx.out]
  have hk0 := BW.start W0
  have hS0 := HRd.out _ hk0
  go_region_held3 (Rd w.heap.size wb (.slice (some ⟨vb, vo, none⟩) vs.length cv) vb (vo + vn) (.string (SN)) W0)
    (first | assumption | exact HRd.out _ (BW.alloc (by assumption) _))
    (first
      | (go_at_call 25
         with_reducible refine hput1.out.mono ?_
         rintro e w9 ⟨rfl, hw9, hk9⟩
         have hS9 := HRk.out _ _ _ (by assumption) hk9 hw9
         have HW9 := hid hw9
         have HK9 := hid (HWk.out _ _ (by assumption) hk9)
         clear hk9 hw9)
      | fail)
  all_goals
    go_wp2_with fail
    go_end0
    exact ⟨rfl, by have h := HW9.out; rw [hfin.out] at h; first | exact h | simpa using h, HK9.out⟩

set_option maxRecDepth 100000 in
set_option maxHeartbeats 4000000 in
theorem wassert_any (vs : List ByteArray) (hv : vs.all nameB = true) (B wb : Nat) (L : List UInt8) (va : Option Addr) (cv : Nat) (r v : Int) (u0 u1 u2 u3 v0 v1 v2 v3 : Value) (xa _xb : Ex) (ta ea : Option Addr) (tn en tc ec : Nat) (w : World) (hw : Wt w B wb L (.slice va vs.length cv)) (hBw : B ≤ w.heap.size) (_hvr : VrIn w (LtB B) va vs.length cv vs)
    (_hr : 0 ≤ r ∧ r < 100)  (hxa : ExIn w (LtB B) [u0, u1, u2, u3] xa) (hfa : xa.fit 16 20 = true) (hob : v0.oneCell' = true ∧ v1.oneCell' = true ∧ v2.oneCell' = true ∧ v3.oneCell' = true) (hlen : L.length ≤ 90000000000) :
    Calls Tryz.prog 85 #[.pointer (some ⟨wb, 0, none⟩), .agg #[.int .i64 9, .int .i64 r, .int .i64 v, u0, u1, u2, u3, v0, v1, v2, v3, .slice ta tn tc, .slice ea en ec]] w (PutPost B wb (L ++ ([97, 115, 115, 101, 114, 116, 32] ++ xa.txt ++ [59])) (.slice va vs.length cv) w) := by
  obtain ⟨oa0, oa1, oa2, oa3⟩ := hxa.ones
  have hal := Ex.txt_le hfa
  obtain ⟨ob0, ob1, ob2, ob3⟩ := hob
  generalize hW : w.alloc (.cells #[.int .i64 9, .int .i64 r, .int .i64 v, u0, u1, u2, u3, v0, v1, v2, v3, .slice ta tn tc, .slice ea en ec] 56) = W0
  have hB : Below w.heap.size w W0 := by subst hW; exact (Below.refl _ _).alloc (Nat.le_refl _) _
  have z0 : w.heap.size < W0.heap.size := by subst hW; simp
  have hX : Hid (W0.heap[w.heap.size]? = some (.cells #[.int .i64 9, .int .i64 r, .int .i64 v, u0, u1, u2, u3, v0, v1, v2, v3, .slice ta tn tc, .slice ea en ec] 56 (0, 0))) := by subst hW; exact heap_alloc_new w _
  have c0 : W0.cell? ⟨w.heap.size, 0, none⟩ = some (.int .i64 9) := by subst hW; go_simp
  have c1 : W0.cell? ⟨w.heap.size, 1, none⟩ = some (.int .i64 r) := by subst hW; go_simp
  have c2 : W0.cell? ⟨w.heap.size, 2, none⟩ = some (.int .i64 v) := by subst hW; go_simp
  have c3 : W0.cell? ⟨w.heap.size, 3, none⟩ = some u0 := by subst hW; go_simp
  have c4 : W0.cell? ⟨w.heap.size, 4, none⟩ = some u1 := by subst hW; go_simp
  have c5 : W0.cell? ⟨w.heap.size, 5, none⟩ = some u2 := by subst hW; go_simp
  have c6 : W0.cell? ⟨w.heap.size, 6, none⟩ = some u3 := by subst hW; go_simp
  have c7 : W0.cell? ⟨w.heap.size, 7, none⟩ = some v0 := by subst hW; go_simp
  have c8 : W0.cell? ⟨w.heap.size, 8, none⟩ = some v1 := by subst hW; go_simp
  have c9 : W0.cell? ⟨w.heap.size, 9, none⟩ = some v2 := by subst hW; go_simp
  have c10 : W0.cell? ⟨w.heap.size, 10, none⟩ = some v3 := by subst hW; go_simp
  have c11 : W0.cell? ⟨w.heap.size, 11, none⟩ = some (.slice ta tn tc) := by subst hW; go_simp
  have c12 : W0.cell? ⟨w.heap.size, 12, none⟩ = some (.slice ea en ec) := by subst hW; go_simp
  have Hw0 := hid (hw.below hB)
  have hwl := hw.lt
  have zw : wb < W0.heap.size := by omega
  have hne : w.heap.size ≠ wb := by omega
  have hdg := toB_len r
  have hnm := nmB_len hv v
  have HRd : Hid (∀ W, BW W0 W → Rd w.heap.size wb (.slice va vs.length cv) w.heap.size 0 (.int .i64 9) W0 W) := fun W hb => Rd.below (W := W0) ⟨fun _ => rfl, Hw0.out.c2, c0⟩ hb z0 zw z0
  have HRk : Hid (∀ W W' L', BW W0 W → Wk B wb W W' → Wt W' B wb L' (.slice va vs.length cv) → Rd w.heap.size wb (.slice va vs.length cv) w.heap.size 0 (.int .i64 9) W0 W') := fun W W' L' hb hk hw' => by
    have hXW := (Below.block hb _ z0).trans hX.out
    have hc := fun j => World.cell?_of_block (a := ⟨w.heap.size, j, none⟩) ((hk.cells hXW hne (by decide)).trans hXW.symm)
    have h := HRd.out W hb
    exact ⟨fun j => (hc j).trans (h.1 j), hw'.c2, (hc 0).trans h.2.2⟩
  have HWt : Hid (∀ W, BW W0 W → Wt W B wb L (.slice va vs.length cv)) := fun W hb => Hw0.out.below hb
  have HWk : Hid (∀ W W', BW W0 W → Wk B wb W W' → Wk B wb w W') := fun W W' hb hk => (Wk.of_below (hB.trans (Below.mono hb hB.size)) hBw).trans hk
  have HBs : Hid (∀ W, BW W0 W → B ≤ W.heap.size) := fun W hb => Nat.le_trans hBw (Nat.le_trans hB.size (Below.size hb))
  have hTA : Hid (∀ W, BW W0 W → Calls Tryz.prog 116 #[.agg #[u0, u1, u2, u3]] W fun e w' => e = .returned (.string (strL xa.txt)) ∧ Below W.heap.size W w') := fun W hb => ptext_any (Int.le_refl 16) 20 (Nat.le_refl _) xa hfa [u0, u1, u2, u3] W ((hxa.keep fun b o hb' => (Below.cell (p := ⟨b, o, none⟩) (hB.trans (Below.mono hb hB.size)) (by have h' : b < B := hb'; show b < _; omega))).widen fun b hb' => by have h' : b < B := hb'; have := HBs.out W hb; show b < _; omega)
  obtain ⟨lst, hlst⟩ : ∃ l : List ByteArray, l = [⟨#[97, 115, 115, 101, 114, 116, 32]⟩, strL (xa.txt), ⟨#[59]⟩] := ⟨_, rfl⟩
  have hcat : catB lst = [97, 115, 115, 101, 114, 116, 32] ++ xa.txt ++ [59] := by rw [hlst]; simp [catB, strL]
  have hcl : (catB lst).length ≤ 100000000 := by rw [hcat]; first | omega | (simp; done) | (simp; omega)
  have hput := hid (fun W (hb : BW W0 W) => put_lit W (lst.map Value.string).toArray 3 lst (HWt.out W hb) (HBs.out W hb) rfl (by rw [hlst]; rfl) (by omega) (by omega))
  have hmp : (lst.map Value.string).toArray = #[.string ⟨#[97, 115, 115, 101, 114, 116, 32]⟩, .string (strL (xa.txt)), .string ⟨#[59]⟩] := by rw [hlst]; rfl
  rw [hmp] at hput
  have hfin : Hid (catB lst = [97, 115, 115, 101, 114, 116, 32] ++ xa.txt ++ [59]) := hcat
  have hWx := hid hW
  clear hW hB hw _hvr hlst hcat hcl hmp hX Hw0 hdg hnm hv hal hxa hfa
  generalize strL (xa.txt) = SA at *
  go_enter Tryz.func85, Tryz.ntmps85
  skip
  go_upto_region 1 with fail
  rw [hWx.out]
  have hk0 := BW.same W0
  have hS0 := HRd.out _ hk0
  go_wp2_with (first
    | (go_at_call 116
       with_reducible refine (hTA.out _ ?_).mono ?_
       (focus assumption)
       rintro e w2 ⟨rfl, hb2⟩
       have hk2 : BW W0 w2 := BW.next (by assumption) hb2
       have hS2 := HRd.out _ hk2
       clear hb2)
    | (go_at_call 25
       with_reducible refine (hput.out _ ?_).mono ?_
       (focus assumption)
       rintro e w9 ⟨rfl, hw9, hk9⟩
       have hS9 := HRk.out _ _ _ (by assumption) hk9 hw9
       have HW9 := hid hw9
       have HK9 := hid (HWk.out _ _ (by assumption) hk9)
       clear hk9 hw9)
    | fail)
  go_end0
  exact ⟨rfl, by have h := HW9.out; rw [hfin.out] at h; first | exact h | simpa using h, HK9.out⟩
end Go.Proofs.YtphlbbnmligadaaGreatDoor
