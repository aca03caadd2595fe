/- The program's writers of loops and choices. -/
import Derived.Test.YtphlbbnmligadaaGreatDoorPrW
namespace Go.Proofs.YtphlbbnmligadaaGreatDoor
open Go.RowKit


set_option maxRecDepth 100000 in
set_option maxHeartbeats 8000000 in
theorem wloop_any (vs : List ByteArray) (B wb : Nat) (L : List UInt8) (va : Option Addr) (cv : Nat) (r v : Int) (u0 u1 u2 u3 v0 v1 v2 v3 : Value) (xa : Ex) (t ex : List St) (ta ea : Option Addr) (tn en tc ec : Nat) (w : World) (hw : Wt w B wb L (.slice va vs.length cv)) (hBw : B ≤ w.heap.size)
    (hxa : ExIn w (LtB B) [u0, u1, u2, u3] xa) (hfa : xa.fit 16 20 = true) (hob : v0.oneCell' = true ∧ v1.oneCell' = true ∧ v2.oneCell' = true ∧ v3.oneCell' = true) (htn : tn ≤ tc ∧ tc ≤ 9223372036854775807) (hen : en ≤ ec ∧ ec ≤ 9223372036854775807) (hlen : L.length + ([119, 104, 105, 108, 101, 32] ++ xa.txt ++ [32] ++ blkB vs t).length ≤ 90000000000)
    (hbt : ∀ W L', Wt W B wb L' (.slice va vs.length cv) → Wk B wb w W → L'.length + (blkB vs t).length ≤ 90000000000 → Calls Tryz.prog 28 #[.pointer (some ⟨wb, 0, none⟩), .slice ta tn tc] W (PutPost B wb (L' ++ blkB vs t) (.slice va vs.length cv) W))
    (hbe : ∀ W L', Wt W B wb L' (.slice va vs.length cv) → Wk B wb w W → L'.length + (blkB vs ex).length ≤ 90000000000 → Calls Tryz.prog 28 #[.pointer (some ⟨wb, 0, none⟩), .slice ea en ec] W (PutPost B wb (L' ++ blkB vs ex) (.slice va vs.length cv) W)) :
    Calls Tryz.prog 87 #[.pointer (some ⟨wb, 0, none⟩), .agg #[.int .i64 11, .int .i64 r, .int .i64 v, u0, u1, u2, u3, v0, v1, v2, v3, .slice ta tn tc, .slice ea en ec]] w (PutPost B wb (L ++ ([119, 104, 105, 108, 101, 32] ++ xa.txt ++ [32] ++ blkB vs t)) (.slice va vs.length cv) w) := by
  obtain ⟨oa0, oa1, oa2, oa3⟩ := hxa.ones
  have hal := Ex.txt_le hfa
  obtain ⟨ob0, ob1, ob2, ob3⟩ := hob
  obtain ⟨ht1, ht2⟩ := htn
  obtain ⟨he1, he2⟩ := hen
  generalize hW : w.alloc (.cells #[.int .i64 11, .int .i64 r, .int .i64 v, u0, u1, u2, u3, v0, v1, v2, v3, .slice ta tn tc, .slice ea en ec] 56) = W0
  have hB : Below w.heap.size w W0 := by subst hW; exact (Below.refl _ _).alloc (Nat.le_refl _) _
  have z0 : w.heap.size < W0.heap.size := by subst hW; simp
  have hX : Hid (W0.heap[w.heap.size]? = some (.cells #[.int .i64 11, .int .i64 r, .int .i64 v, u0, u1, u2, u3, v0, v1, v2, v3, .slice ta tn tc, .slice ea en ec] 56 (0, 0))) := by subst hW; exact heap_alloc_new w _
  have c0 : W0.cell? ⟨w.heap.size, 0, none⟩ = some (.int .i64 11) := by subst hW; go_simp
  have c1 : W0.cell? ⟨w.heap.size, 1, none⟩ = some (.int .i64 r) := by subst hW; go_simp
  have c2 : W0.cell? ⟨w.heap.size, 2, none⟩ = some (.int .i64 v) := by subst hW; go_simp
  have c3 : W0.cell? ⟨w.heap.size, 3, none⟩ = some u0 := by subst hW; go_simp
  have c4 : W0.cell? ⟨w.heap.size, 4, none⟩ = some u1 := by subst hW; go_simp
  have c5 : W0.cell? ⟨w.heap.size, 5, none⟩ = some u2 := by subst hW; go_simp
  have c6 : W0.cell? ⟨w.heap.size, 6, none⟩ = some u3 := by subst hW; go_simp
  have c7 : W0.cell? ⟨w.heap.size, 7, none⟩ = some v0 := by subst hW; go_simp
  have c8 : W0.cell? ⟨w.heap.size, 8, none⟩ = some v1 := by subst hW; go_simp
  have c9 : W0.cell? ⟨w.heap.size, 9, none⟩ = some v2 := by subst hW; go_simp
  have c10 : W0.cell? ⟨w.heap.size, 10, none⟩ = some v3 := by subst hW; go_simp
  have c11 : W0.cell? ⟨w.heap.size, 11, none⟩ = some (.slice ta tn tc) := by subst hW; go_simp
  have c12 : W0.cell? ⟨w.heap.size, 12, none⟩ = some (.slice ea en ec) := by subst hW; go_simp
  have Hw0 := hid (hw.below hB)
  have hwl := hw.lt
  have zw : wb < W0.heap.size := by omega
  have hne : w.heap.size ≠ wb := by omega
  have HRd : Hid (∀ W, BW W0 W → Rd w.heap.size wb (.slice va vs.length cv) w.heap.size 0 (.int .i64 11) W0 W) := fun W hb => Rd.below (W := W0) ⟨fun _ => rfl, Hw0.out.c2, c0⟩ hb z0 zw z0
  have HRk : Hid (∀ W' L', Wk B wb W0 W' → Wt W' B wb L' (.slice va vs.length cv) → Rd w.heap.size wb (.slice va vs.length cv) w.heap.size 0 (.int .i64 11) W0 W' ∧ w.heap.size < W'.heap.size) := fun W' L' hk hw' => by
    have hc := fun j => World.cell?_of_block (a := ⟨w.heap.size, j, none⟩) ((hk.cells hX.out hne (by decide)).trans hX.out.symm)
    exact ⟨⟨fun j => hc j, hw'.c2, (hc 0).trans c0⟩, Nat.lt_of_lt_of_le z0 hk.bl.size⟩
  have HWt : Hid (∀ W, BW W0 W → Wt W B wb L (.slice va vs.length cv)) := fun W hb => Hw0.out.below hb
  have hBW0 : B ≤ W0.heap.size := Nat.le_trans hBw hB.size
  have HWk : Hid (∀ W', Wk B wb W0 W' → Wk B wb w W') := fun W' hk => (Wk.of_below hB hBw).trans hk
  have HB0 : Hid (∀ W, BW W0 W → Wk B wb W0 W) := fun W hb => Wk.of_below hb hBW0
  have HBs : Hid (∀ W, BW W0 W → B ≤ W.heap.size) := fun W hb => Nat.le_trans hBW0 (Below.size hb)
  have hTA : Hid (∀ W, BW W0 W → Calls Tryz.prog 116 #[.agg #[u0, u1, u2, u3]] W fun e w' => e = .returned (.string (strL xa.txt)) ∧ Below W.heap.size W w') := fun W hb => ptext_any (Int.le_refl 16) 20 (Nat.le_refl _) xa hfa [u0, u1, u2, u3] W ((hxa.keep fun b o hb' => (Below.cell (p := ⟨b, o, none⟩) (hB.trans (Below.mono hb hB.size)) (by have h' : b < B := hb'; show b < _; omega))).widen fun b hb' => by have h' : b < B := hb'; have := HBs.out W hb; show b < _; omega)
  obtain ⟨lst, hlst⟩ : ∃ l : List ByteArray, l = [⟨#[119, 104, 105, 108, 101, 32]⟩, strL (xa.txt), ⟨#[32]⟩] := ⟨_, rfl⟩
  have hcat : catB lst = [119, 104, 105, 108, 101, 32] ++ xa.txt ++ [32] := by rw [hlst]; simp [catB, strL]
  have hcl : (catB lst).length ≤ 100000000 := by rw [hcat]; first | omega | (simp; done) | (simp; omega)
  have hlL : L.length ≤ 90000000000 := by omega
  have hput := hid (fun W (hb : BW W0 W) => put_lit W (lst.map Value.string).toArray 3 lst (HWt.out W hb) (HBs.out W hb) rfl (by rw [hlst]; rfl) (by omega) (by omega))
  have hmp : (lst.map Value.string).toArray = #[.string ⟨#[119, 104, 105, 108, 101, 32]⟩, .string (strL (xa.txt)), .string ⟨#[32]⟩] := by rw [hlst]; rfl
  rw [hmp] at hput
  have hl1 : Hid ((L ++ catB lst).length + (blkB vs t).length ≤ 90000000000) := by show _ ≤ _; rw [hcat]; simp only [List.length_append, List.length_cons, List.length_nil] at hlen ⊢; omega
  have Hbt := hid hbt
  have Hbe := hid hbe
  have hfin : Hid (L ++ catB lst ++ blkB vs t = L ++ ([119, 104, 105, 108, 101, 32] ++ xa.txt ++ [32] ++ blkB vs t)) := by show _ = _; rw [hcat]; simp only [List.append_assoc]
  have hWx := hid hW
  clear hW hB hw hlst hcat hcl hmp hX Hw0 hal hxa hfa hbt hbe hlen hlL
  generalize strL (xa.txt) = SA at *
  go_enter Tryz.func87, Tryz.ntmps87
  go_upto_region 1 with fail
  rw [hWx.out]
  have hk0 := BW.same W0
  have hS0 := HRd.out _ hk0
  go_wp2_with (first
    | (go_at_call 116
       with_reducible refine (hTA.out _ hk0).mono ?_
       rintro e w2 ⟨rfl, hb2⟩
       have hk2 : BW W0 w2 := BW.next hk0 hb2
       have hS2 := HRd.out _ hk2
       clear hb2)
    | (go_at_call 25
       with_reducible refine (hput.out _ hk2).mono ?_
       rintro e w9 ⟨rfl, hw9, hk9⟩
       have HQ9 := hid ((HB0.out _ hk2).trans hk9)
       have hS9 := HRk.out _ _ HQ9.out hw9
       have HW9 := hid hw9
       clear hk9 hw9)
    | (go_at_call 28
       with_reducible refine (Hbt.out _ _ HW9.out (HWk.out _ HQ9.out) hl1.out).mono ?_
       rintro e w10 ⟨rfl, hw10, hk10⟩
       have HQ10 := hid (HQ9.out.trans hk10)
       have hS10 := HRk.out _ _ HQ10.out hw10
       have HW10 := hid hw10
       clear hk10 hw10)
    | fail)
  go_end0
  exact ⟨rfl, by have h := HW10.out; rw [hfin.out] at h; first | exact h | simpa using h, HWk.out _ HQ10.out⟩

set_option maxRecDepth 100000 in
set_option maxHeartbeats 8000000 in
theorem wchoice_any (vs : List ByteArray) (B wb : Nat) (L : List UInt8) (va : Option Addr) (cv : Nat) (r v : Int) (u0 u1 u2 u3 v0 v1 v2 v3 : Value) (xa : Ex) (t ex : List St) (ta ea : Option Addr) (tn en tc ec : Nat) (w : World) (hw : Wt w B wb L (.slice va vs.length cv)) (hBw : B ≤ w.heap.size)
    (hxa : ExIn w (LtB B) [u0, u1, u2, u3] xa) (hfa : xa.fit 16 20 = true) (hob : v0.oneCell' = true ∧ v1.oneCell' = true ∧ v2.oneCell' = true ∧ v3.oneCell' = true) (htn : tn ≤ tc ∧ tc ≤ 9223372036854775807) (hen : en ≤ ec ∧ ec ≤ 9223372036854775807) (Z : List UInt8) (hZ0 : en = 0 → Z = []) (hZ1 : en ≠ 0 → Z = [32, 101, 108, 115, 101, 32] ++ blkB vs ex) (hlen : L.length + ([105, 102, 32] ++ xa.txt ++ [32] ++ blkB vs t ++ Z).length ≤ 90000000000)
    (hbt : ∀ W L', Wt W B wb L' (.slice va vs.length cv) → Wk B wb w W → L'.length + (blkB vs t).length ≤ 90000000000 → Calls Tryz.prog 28 #[.pointer (some ⟨wb, 0, none⟩), .slice ta tn tc] W (PutPost B wb (L' ++ blkB vs t) (.slice va vs.length cv) W))
    (hbe : ∀ W L', Wt W B wb L' (.slice va vs.length cv) → Wk B wb w W → L'.length + (blkB vs ex).length ≤ 90000000000 → Calls Tryz.prog 28 #[.pointer (some ⟨wb, 0, none⟩), .slice ea en ec] W (PutPost B wb (L' ++ blkB vs ex) (.slice va vs.length cv) W)) :
    Calls Tryz.prog 86 #[.pointer (some ⟨wb, 0, none⟩), .agg #[.int .i64 10, .int .i64 r, .int .i64 v, u0, u1, u2, u3, v0, v1, v2, v3, .slice ta tn tc, .slice ea en ec]] w (PutPost B wb (L ++ ([105, 102, 32] ++ xa.txt ++ [32] ++ blkB vs t ++ Z)) (.slice va vs.length cv) w) := by
  obtain ⟨oa0, oa1, oa2, oa3⟩ := hxa.ones
  have hal := Ex.txt_le hfa
  obtain ⟨ob0, ob1, ob2, ob3⟩ := hob
  obtain ⟨ht1, ht2⟩ := htn
  obtain ⟨he1, he2⟩ := hen
  generalize hW : w.alloc (.cells #[.int .i64 10, .int .i64 r, .int .i64 v, u0, u1, u2, u3, v0, v1, v2, v3, .slice ta tn tc, .slice ea en ec] 56) = W0
  have hB : Below w.heap.size w W0 := by subst hW; exact (Below.refl _ _).alloc (Nat.le_refl _) _
  have z0 : w.heap.size < W0.heap.size := by subst hW; simp
  have hX : Hid (W0.heap[w.heap.size]? = some (.cells #[.int .i64 10, .int .i64 r, .int .i64 v, u0, u1, u2, u3, v0, v1, v2, v3, .slice ta tn tc, .slice ea en ec] 56 (0, 0))) := by subst hW; exact heap_alloc_new w _
  have c0 : W0.cell? ⟨w.heap.size, 0, none⟩ = some (.int .i64 10) := by subst hW; go_simp
  have c1 : W0.cell? ⟨w.heap.size, 1, none⟩ = some (.int .i64 r) := by subst hW; go_simp
  have c2 : W0.cell? ⟨w.heap.size, 2, none⟩ = some (.int .i64 v) := by subst hW; go_simp
  have c3 : W0.cell? ⟨w.heap.size, 3, none⟩ = some u0 := by subst hW; go_simp
  have c4 : W0.cell? ⟨w.heap.size, 4, none⟩ = some u1 := by subst hW; go_simp
  have c5 : W0.cell? ⟨w.heap.size, 5, none⟩ = some u2 := by subst hW; go_simp
  have c6 : W0.cell? ⟨w.heap.size, 6, none⟩ = some u3 := by subst hW; go_simp
  have c7 : W0.cell? ⟨w.heap.size, 7, none⟩ = some v0 := by subst hW; go_simp
  have c8 : W0.cell? ⟨w.heap.size, 8, none⟩ = some v1 := by subst hW; go_simp
  have c9 : W0.cell? ⟨w.heap.size, 9, none⟩ = some v2 := by subst hW; go_simp
  have c10 : W0.cell? ⟨w.heap.size, 10, none⟩ = some v3 := by subst hW; go_simp
  have c11 : W0.cell? ⟨w.heap.size, 11, none⟩ = some (.slice ta tn tc) := by subst hW; go_simp
  have c12 : W0.cell? ⟨w.heap.size, 12, none⟩ = some (.slice ea en ec) := by subst hW; go_simp
  have Hw0 := hid (hw.below hB)
  have hwl := hw.lt
  have zw : wb < W0.heap.size := by omega
  have hne : w.heap.size ≠ wb := by omega
  have HRd : Hid (∀ W, BW W0 W → Rd w.heap.size wb (.slice va vs.length cv) w.heap.size 0 (.int .i64 10) W0 W) := fun W hb => Rd.below (W := W0) ⟨fun _ => rfl, Hw0.out.c2, c0⟩ hb z0 zw z0
  have HRk : Hid (∀ W' L', Wk B wb W0 W' → Wt W' B wb L' (.slice va vs.length cv) → Rd w.heap.size wb (.slice va vs.length cv) w.heap.size 0 (.int .i64 10) W0 W' ∧ w.heap.size < W'.heap.size) := fun W' L' hk hw' => by
    have hc := fun j => World.cell?_of_block (a := ⟨w.heap.size, j, none⟩) ((hk.cells hX.out hne (by decide)).trans hX.out.symm)
    exact ⟨⟨fun j => hc j, hw'.c2, (hc 0).trans c0⟩, Nat.lt_of_lt_of_le z0 hk.bl.size⟩
  have HWt : Hid (∀ W, BW W0 W → Wt W B wb L (.slice va vs.length cv)) := fun W hb => Hw0.out.below hb
  have hBW0 : B ≤ W0.heap.size := Nat.le_trans hBw hB.size
  have HWk : Hid (∀ W', Wk B wb W0 W' → Wk B wb w W') := fun W' hk => (Wk.of_below hB hBw).trans hk
  have HB0 : Hid (∀ W, BW W0 W → Wk B wb W0 W) := fun W hb => Wk.of_below hb hBW0
  have HBs : Hid (∀ W, BW W0 W → B ≤ W.heap.size) := fun W hb => Nat.le_trans hBW0 (Below.size hb)
  have hTA : Hid (∀ W, BW W0 W → Calls Tryz.prog 116 #[.agg #[u0, u1, u2, u3]] W fun e w' => e = .returned (.string (strL xa.txt)) ∧ Below W.heap.size W w') := fun W hb => ptext_any (Int.le_refl 16) 20 (Nat.le_refl _) xa hfa [u0, u1, u2, u3] W ((hxa.keep fun b o hb' => (Below.cell (p := ⟨b, o, none⟩) (hB.trans (Below.mono hb hB.size)) (by have h' : b < B := hb'; show b < _; omega))).widen fun b hb' => by have h' : b < B := hb'; have := HBs.out W hb; show b < _; omega)
  obtain ⟨lst, hlst⟩ : ∃ l : List ByteArray, l = [⟨#[105, 102, 32]⟩, strL (xa.txt), ⟨#[32]⟩] := ⟨_, rfl⟩
  have hcat : catB lst = [105, 102, 32] ++ xa.txt ++ [32] := by rw [hlst]; simp [catB, strL]
  have hcl : (catB lst).length ≤ 100000000 := by rw [hcat]; first | omega | (simp; done) | (simp; omega)
  have hlL : L.length ≤ 90000000000 := by omega
  have hput := hid (fun W (hb : BW W0 W) => put_lit W (lst.map Value.string).toArray 3 lst (HWt.out W hb) (HBs.out W hb) rfl (by rw [hlst]; rfl) (by omega) (by omega))
  have hmp : (lst.map Value.string).toArray = #[.string ⟨#[105, 102, 32]⟩, .string (strL (xa.txt)), .string ⟨#[32]⟩] := by rw [hlst]; rfl
  rw [hmp] at hput
  have hl1 : Hid ((L ++ catB lst).length + (blkB vs t).length ≤ 90000000000) := by show _ ≤ _; rw [hcat]; simp only [List.length_append, List.length_cons, List.length_nil] at hlen ⊢; omega
  have Hbt := hid hbt
  have Hbe := hid hbe
  by_cases hen0 : en = 0
  · subst hen0
    obtain rfl := hZ0 rfl
    clear hZ0 hZ1
    have hfin : Hid (L ++ catB lst ++ blkB vs t = L ++ ([105, 102, 32] ++ xa.txt ++ [32] ++ blkB vs t ++ [])) := by show _ = _; rw [hcat]; simp
    have hWx := hid hW
    clear hW hB hw hlst hcat hcl hmp hX Hw0 hal hxa hfa hbt hbe hlen hlL
    generalize strL (xa.txt) = SA at *
    go_enter Tryz.func86, Tryz.ntmps86
    go_upto_region 1 with fail
    rw [hWx.out]
    have hk0 := BW.same W0
    have hS0 := HRd.out _ hk0
    go_wp2_with (first
      | (go_at_call 116
         with_reducible refine (hTA.out _ hk0).mono ?_
         rintro e w2 ⟨rfl, hb2⟩
         have hk2 : BW W0 w2 := BW.next hk0 hb2
         have hS2 := HRd.out _ hk2
         clear hb2)
      | (go_at_call 25
         with_reducible refine (hput.out _ hk2).mono ?_
         rintro e w9 ⟨rfl, hw9, hk9⟩
         have HQ9 := hid ((HB0.out _ hk2).trans hk9)
         have hS9 := HRk.out _ _ HQ9.out hw9
         have HW9 := hid hw9
         clear hk9 hw9)
      | (go_at_call 28
         with_reducible refine (Hbt.out _ _ HW9.out (HWk.out _ HQ9.out) hl1.out).mono ?_
         rintro e w10 ⟨rfl, hw10, hk10⟩
         have HQ10 := hid (HQ9.out.trans hk10)
         have hS10 := HRk.out _ _ HQ10.out hw10
         have HW10 := hid hw10
         clear hk10 hw10)
      | fail)
    go_end0
    exact ⟨rfl, by have h := HW10.out; rw [hfin.out] at h; first | exact h | simpa using h, HWk.out _ HQ10.out⟩
  · have dE : decide (0 < en) = true := decide_eq_true (by omega)
    have ce : catB [(⟨#[32, 101, 108, 115, 101, 32]⟩ : ByteArray)] = [32, 101, 108, 115, 101, 32] := rfl
    have hl2 : Hid ((L ++ catB lst ++ blkB vs t).length + (catB [(⟨#[32, 101, 108, 115, 101, 32]⟩ : ByteArray)]).length ≤ 100000000000) := by show _ ≤ _; rw [ce, hcat]; rw [hZ1 hen0] at hlen; simp only [List.length_append, List.length_cons, List.length_nil] at hlen ⊢; omega
    have hl3 : Hid ((L ++ catB lst ++ blkB vs t ++ catB [(⟨#[32, 101, 108, 115, 101, 32]⟩ : ByteArray)]).length + (blkB vs ex).length ≤ 90000000000) := by show _ ≤ _; rw [ce, hcat]; rw [hZ1 hen0] at hlen; simp only [List.length_append, List.length_cons, List.length_nil] at hlen ⊢; omega
    have hfin : Hid (L ++ catB lst ++ blkB vs t ++ catB [(⟨#[32, 101, 108, 115, 101, 32]⟩ : ByteArray)] ++ blkB vs ex = L ++ ([105, 102, 32] ++ xa.txt ++ [32] ++ blkB vs t ++ Z)) := by show _ = _; rw [hcat, ce, hZ1 hen0]; simp only [List.append_assoc]
    have hput2 : Hid (∀ W L', Wt W B wb L' (.slice va vs.length cv) → B ≤ W.heap.size → L'.length + (catB [(⟨#[32, 101, 108, 115, 101, 32]⟩ : ByteArray)]).length ≤ 100000000000 → Calls Tryz.prog 25 #[.pointer (some ⟨wb, 0, none⟩), .slice (some ⟨W.heap.size, 0, none⟩) 1 1] (W.alloc (.cells #[.string ⟨#[32, 101, 108, 115, 101, 32]⟩] 9)) fun e w' => e = .returned (.tuple #[]) ∧ Wt w' B wb (L' ++ catB [(⟨#[32, 101, 108, 115, 101, 32]⟩ : ByteArray)]) (.slice va vs.length cv) ∧ Wk B wb W w') := fun W L' h1 h2 h3 => put_lit W _ 1 [⟨#[32, 101, 108, 115, 101, 32]⟩] h1 h2 rfl rfl (by decide) h3
    clear ce hZ0 hZ1
    have hWx := hid hW
    clear hW hB hw hlst hcat hcl hmp hX Hw0 hal hxa hfa hbt hbe hlen hlL hen0
    generalize strL (xa.txt) = SA at *
    go_enter Tryz.func86, Tryz.ntmps86
    go_upto_region 1 with fail
    rw [hWx.out]
    have hk0 := BW.same W0
    have hS0 := HRd.out _ hk0
    go_wp2_with (first
      | (go_at_call 116
         with_reducible refine (hTA.out _ hk0).mono ?_
         rintro e w2 ⟨rfl, hb2⟩
         have hk2 : BW W0 w2 := BW.next hk0 hb2
         have hS2 := HRd.out _ hk2
         clear hb2)
      | (go_at_call 25
         with_reducible refine (hput.out _ hk2).mono ?_
         rintro e w9 ⟨rfl, hw9, hk9⟩
         have HQ9 := hid ((HB0.out _ hk2).trans hk9)
         have hS9 := HRk.out _ _ HQ9.out hw9
         have HW9 := hid hw9
         clear hk9 hw9)
      | (go_at_call 28
         with_reducible refine (Hbt.out _ _ HW9.out (HWk.out _ HQ9.out) hl1.out).mono ?_
         rintro e w10 ⟨rfl, hw10, hk10⟩
         have HQ10 := hid (HQ9.out.trans hk10)
         have hS10 := HRk.out _ _ HQ10.out hw10
         have HW10 := hid hw10
         clear hk10 hw10)
      | (go_at_call 25
         with_reducible refine (hput2.out _ _ HW10.out (Nat.le_trans hBW0 HQ10.out.bl.size) hl2.out).mono ?_
         rintro e w11 ⟨rfl, hw11, hk11⟩
         have HQ11 := hid (HQ10.out.trans hk11)
         have hS11 := HRk.out _ _ HQ11.out hw11
         have HW11 := hid hw11
         clear hk11 hw11)
      | (go_at_call 28
         with_reducible refine (Hbe.out _ _ HW11.out (HWk.out _ HQ11.out) hl3.out).mono ?_
         rintro e w12 ⟨rfl, hw12, hk12⟩
         have HQ12 := hid (HQ11.out.trans hk12)
         have HW12 := hid hw12
         clear hk12 hw12)
      | fail)
    go_end0
    exact ⟨rfl, by have h := HW12.out; rw [hfin.out] at h; first | exact h | simpa using h, HWk.out _ HQ12.out⟩
end Go.Proofs.YtphlbbnmligadaaGreatDoor
