/- The program's writer of instructions: lead, and what it tells. -/
import Derived.Test.YtcgpobeidlimkaaGreatDoorBunS
import Derived.Test.YtcgpobeidlimkaaGreatDoorBunC
import Derived.StillTailTactics
import Derived.Test.YtcgpobeidlimkaaGreatDoorBunM
namespace Go.Proofs.YtcgpobeidlimkaaGreatDoor
open Go.RowKit

theorem of_own {w : World} {n0 : Nat} {S : Nat → Prop} {v : Value} {L : List Ins} (h : InsO w n0 S v L) (h0 : 0 < L.length) : ∃ g cap, v = .slice (some ⟨g, 0, none⟩) L.length cap ∧ L.length ≤ cap ∧ cap ≤ maxLen ∧ g < w.heap.size ∧ (∀ o, w.frozen? ⟨g, o, none⟩ = false) := by
  obtain ⟨LL, rfl, h1, _⟩ := h
  have h1' := h1
  obtain ⟨_, h⟩ := h1
  rcases h with ⟨rfl, h2⟩ | ⟨g, cap, cur, rfl, hb, hg, hle, hcm, hsz, htk⟩
  · rw [List.length_map] at h0; omega
  · exact ⟨g, cap, by simp, by simpa using hle, hcm, (Array.getElem?_eq_some_iff.1 hg).1, fun o => h1'.frozenAt o⟩

/-- What the writer leaves. -/
def WPost (n0 : Nat) (S : Nat → Prop) (wb : Nat) (v : Value) (L' : List Ins) (w : World) (e : Ending) (w' : World) : Prop :=
  e = .returned (.tuple #[]) ∧ ∃ v', WrIs w' n0 S wb v' L' ∧ Wx wb w v w' v'

set_option maxRecDepth 100000 in
set_option maxHeartbeats 2000000 in
theorem lead1_any (n0 : Nat) (S : Nat → Prop) (wb pb ab : Nat) (v : Value) (L : List Ins) (n : Nat) (w : World) (hW : WrIs w n0 S wb v L) (hL : LdB w wb pb ab v n) (hn : n < L.length) (hl : L.length ≤ 100000) :
    Calls Tryz.prog 103 #[.pointer (some ⟨pb, 0, none⟩), .pointer (some ⟨ab, 0, none⟩)] w fun e w' => e = .returned (.tuple #[]) ∧ WrIs w' n0 S wb v (setTo L n L.length) ∧ Wx wb w v w' v := by
  obtain ⟨g, cap, rfl, hc1, hc2, hg, hfr⟩ := of_own hW.row (by omega)
  unfold maxLen at hc2
  have hst := hW.row.toSet hW.sb n L.length hn
  have p0 := hL.cp
  have a0 := hL.ca
  have w0 := hW.c0
  have hgw : g ≠ wb := fun e => hW.ne (by simp [Value.ownBlock, e])
  have hfin : Hid (WrIs (w.drew.setCell ⟨g, n * 12 + 11, none⟩ (.int .i64 L.length)) n0 S wb (.slice (some ⟨g, 0, none⟩) L.length cap) (setTo L n L.length) ∧ Wx wb w (.slice (some ⟨g, 0, none⟩) L.length cap) (w.drew.setCell ⟨g, n * 12 + 11, none⟩ (.int .i64 L.length)) (.slice (some ⟨g, 0, none⟩) L.length cap)) := by
    have hd := (hW.below ((Below.refl w.heap.size w).drew))
    have hst := hd.row.toSet hd.sb n L.length hn
    refine ⟨⟨hd.lo, by simpa using hd.hi, ?_, ?_, hst.1, hd.ne, hd.sb⟩, ⟨rfl, rfl, rfl, by simp, fun k hk h1 h2 => ?_, .inl rfl⟩⟩
    · rw [World.cell?_setCell_other _ _ _ _ (by intro e; injection e; omega)]; exact hd.c0
    · exact (World.frozen?_of_block (w := w.drew) (a := ⟨wb, 0, none⟩) (Below.heap_setCell _ _ _ _ (by simpa using fun e => hgw e.symm))).trans hd.fr
    · exact Below.heap_setCell _ _ _ _ (by simp [Value.ownBlock] at h2; simpa using fun e => h2 e.symm)
  have n0' : (0 : Int) ≤ n := by omega
  have n1 : (n : Int) < L.length := by omega
  have hcell : ∃ u, w.cell? ⟨g, n * 12 + 11, none⟩ = some u := by
    obtain ⟨a, c, e, hr⟩ := hW.row.row
    simp only [Value.slice.injEq] at e
    obtain ⟨rfl, -, rfl⟩ := e
    obtain ⟨b, off, u0, u1, u2, u3, v0, v1, v2, v3, e, -, -, -, -, h11, -⟩ := hr.at_ n hn
    simp only [Option.some.injEq, Addr.mk.injEq, and_true] at e
    obtain ⟨rfl, rfl⟩ := e
    exact ⟨_, by simpa using h11⟩
  obtain ⟨u, hu⟩ := hcell
  have f11 := hfr (n * 12 + 11)
  have q1 : wb < w.heap.size := hW.hi
  have q2 := hL.hp
  have q3 := hL.ha
  clear hst hW hL hfr
  go_enter Tryz.func103, Tryz.ntmps103
  go_still_tail 12, (by kernel_rfl)
  change wpList _ _ _ _ _ w.drew
  go_wp2_with fail
  go_end0
  exact ⟨rfl, hfin.out⟩

/-- What lead tells: a function with two boxes. -/
def LeadPost (n0 : Nat) (S : Nat → Prop) (wb : Nat) (v : Value) (L : List Ins) (x : Ins) (w : World) (e : Ending) (w' : World) : Prop :=
  ∃ pb ab v', e = .returned (.func (.func 103) #[] #[.pointer (some ⟨pb, 0, none⟩), .pointer (some ⟨ab, 0, none⟩)]) ∧ WrIs w' n0 S wb v' (L ++ [x]) ∧ Wx wb w v w' v' ∧ LdB w' wb pb ab v' L.length

set_option maxRecDepth 100000 in
set_option maxHeartbeats 4000000 in
theorem lead_any (n0 : Nat) (S : Nat → Prop) (wb : Nat) (v : Value) (L : List Ins) (y : Ins × V8) (w : World) (hW : WrIs w n0 S wb v L) (hy : InsE w S y) (hl : L.length ≤ 50000) :
    Calls Tryz.prog 84 #[.pointer (some ⟨wb, 0, none⟩), .agg (insC y).toArray] w (LeadPost n0 S wb v L y.1 w) := by
  obtain ⟨a, c, rfl⟩ := hW.row.sl
  obtain ⟨o0, o1, o2, o3⟩ := hy.1.ones
  obtain ⟨o4, o5, o6, o7⟩ := hy.2.ones
  have HW := hid hW
  have Hy := hid hy
  have w0 := hW.c0
  have wf := hW.fr
  have zw := hW.hi
  have hS := hW.sb
  have hlo := hW.lo
  have hcm : L.length ≤ c ∧ c ≤ maxLen := by
    obtain ⟨a', c', e, hr⟩ := hW.row.row
    simp only [Value.slice.injEq, true_and] at e
    obtain ⟨rfl, rfl⟩ := e
    exact ⟨hr.le, hr.mx⟩
  obtain ⟨hc1, hc2⟩ := hcm
  unfold maxLen at hc2
  obtain ⟨⟨op, reg, vv, xa, xb, dst⟩, ⟨u0, u1, u2, u3, v0, v1, v2, v3⟩⟩ := y
  simp only at o0 o1 o2 o3 o4 o5 o6 o7
  have s0 := fun ad W m => run_store (P := Tryz.prog) W ad u0 m o0
  have s1 := fun ad W m => run_store (P := Tryz.prog) W ad u1 m o1
  have s2 := fun ad W m => run_store (P := Tryz.prog) W ad u2 m o2
  have s3 := fun ad W m => run_store (P := Tryz.prog) W ad u3 m o3
  have s4 := fun ad W m => run_store (P := Tryz.prog) W ad v0 m o4
  have s5 := fun ad W m => run_store (P := Tryz.prog) W ad v1 m o5
  have s6 := fun ad W m => run_store (P := Tryz.prog) W ad v2 m o6
  have s7 := fun ad W m => run_store (P := Tryz.prog) W ad v3 m o7
  have hfin : Hid (∀ (W3 W4 : World) (A : Option Addr) (c' pb ab : Nat), Below w.heap.size w W3 → w.heap.size ≤ pb → pb < W3.heap.size → w.heap.size ≤ ab → ab < W3.heap.size → W3.cell? ⟨pb, 0, none⟩ = some (.pointer (some ⟨wb, 0, none⟩)) → W3.cell? ⟨ab, 0, none⟩ = some (.int .i64 L.length) →
      InsO W4 n0 S (.slice A (L.length + 1) c') (L ++ [⟨op, reg, vv, xa, xb, dst⟩]) → W3.grownBy W4 (Value.slice a L.length c).ownBlock → ((Value.slice A (L.length + 1) c').ownBlock = (Value.slice a L.length c).ownBlock ∨ ∃ n, (Value.slice A (L.length + 1) c').ownBlock = some n ∧ W3.heap.size ≤ n) →
      LeadPost n0 S wb (.slice a L.length c) L ⟨op, reg, vv, xa, xb, dst⟩ w (.returned (.func (.func 103) #[] #[.pointer (some ⟨pb, 0, none⟩), .pointer (some ⟨ab, 0, none⟩)])) (W4.setCell ⟨wb, 0, none⟩ (.slice A (L.length + 1) c'))) := by
    intro W3 W4 A c' pb ab hB p0 p1 a0 a1 cp ca hO hg hat
    have hWB := HW.out.below hB
    have own3 := hWB.own
    have hnw : (Value.slice A (L.length + 1) c').ownBlock ≠ some wb := by
      rcases hat with e | ⟨n, e, hn⟩
      · rw [e]; exact hWB.ne
      · rw [e]; intro h; have := hWB.hi; simp at h; omega
    have own0 := HW.out.own
    have hx1 : Wx wb w (.slice a L.length c) W3 (.slice a L.length c) := Wx.of_below hB
    have hx2 : Wx wb W3 (.slice a L.length c) W4 (.slice A (L.length + 1) c') := Wx.of_grown hg hat
    have hx3 : Wx wb W4 (.slice A (L.length + 1) c') (W4.setCell ⟨wb, 0, none⟩ (.slice A (L.length + 1) c')) (.slice A (L.length + 1) c') := Wx.set _ _ _ _ rfl
    have c4 : W4.cell? ⟨wb, 0, none⟩ = some (.slice a L.length c) := (World.cell?_of_block (w := W3) (a := ⟨wb, 0, none⟩) (hg.block wb hWB.hi (fun e => hWB.ne e.symm))).trans hWB.c0
    have f4 : W4.frozen? ⟨wb, 0, none⟩ = false := (World.frozen?_of_block (w := W3) (a := ⟨wb, 0, none⟩) (hg.block wb hWB.hi (fun e => hWB.ne e.symm))).trans hWB.fr
    have pw : pb ≠ wb := by have := HW.out.hi; omega
    have aw : ab ≠ wb := by have := HW.out.hi; omega
    have po : (Value.slice a L.length c).ownBlock ≠ some pb := fun e => by have := (own0 pb e).2; omega
    have ao : (Value.slice a L.length c).ownBlock ≠ some ab := fun e => by have := (own0 ab e).2; omega
    have hx23 := hx2.trans hx3
    refine ⟨pb, ab, .slice A (L.length + 1) c', rfl, ⟨HW.out.lo, ?_, by go_simp, by go_simp, ?_, hnw, HW.out.sb⟩, hx1.trans hx23, ?_⟩
    · have h1 := hx2.size; have h2 := hWB.hi; simp; omega
    · refine InsO.kept (r := some wb) hO ⟨rfl, rfl, rfl, by simp, fun k _ hk => Below.heap_setCell _ _ _ _ (by intro e; exact hk (by rw [e]))⟩ (.inr hnw) fun b hb => ⟨?_, ?_⟩
      · have h0 := HW.out.sb b hb; have h1 := HW.out.lo; have h2 := hWB.hi; have h3 := hx2.size; omega
      · have h0 := HW.out.sb b hb; have h1 := HW.out.lo; intro e; injection e; omega
    · exact LdB.keep ⟨p1, a1, pw, aw, po, ao, cp, ca⟩ hx23
  clear hW hy o0 o1 o2 o3 o4 o5 o6 o7
  show Calls _ _ #[_, .agg #[.int .i64 op, .int .i64 reg, .int .i64 vv, u0, u1, u2, u3, v0, v1, v2, v3, .int .i64 dst]] _ _
  go_enter Tryz.func84, Tryz.ntmps84
  go_wp2_with fail
  generalize hW3 : World.alloc (World.alloc (World.alloc w _) _) _ = W3
  have hB3 : Below w.heap.size w W3 := by subst hW3; exact (((Below.refl _ _).alloc (Nat.le_refl _) _).alloc (by simp) _).alloc (by simp; omega) _
  have z3 : w.heap.size + 2 < W3.heap.size := by subst hW3; simp
  have p0 : W3.cell? ⟨w.heap.size, 0, none⟩ = some (.pointer (some ⟨wb, 0, none⟩)) := by subst hW3; go_simp
  have a0 : W3.cell? ⟨w.heap.size + 1 + 1, 0, none⟩ = some (.int .i64 L.length) := by subst hW3; go_simp
  have y0 : W3.cell? ⟨w.heap.size + 1, 0, none⟩ = some (.int .i64 op) := by subst hW3; go_simp
  have y1 : W3.cell? ⟨w.heap.size + 1, 1, none⟩ = some (.int .i64 reg) := by subst hW3; go_simp
  have y2 : W3.cell? ⟨w.heap.size + 1, 2, none⟩ = some (.int .i64 vv) := by subst hW3; go_simp
  have y3 : W3.cell? ⟨w.heap.size + 1, 3, none⟩ = some u0 := by subst hW3; go_simp
  have y4 : W3.cell? ⟨w.heap.size + 1, 4, none⟩ = some u1 := by subst hW3; go_simp
  have y5 : W3.cell? ⟨w.heap.size + 1, 5, none⟩ = some u2 := by subst hW3; go_simp
  have y6 : W3.cell? ⟨w.heap.size + 1, 6, none⟩ = some u3 := by subst hW3; go_simp
  have y7 : W3.cell? ⟨w.heap.size + 1, 7, none⟩ = some v0 := by subst hW3; go_simp
  have y8 : W3.cell? ⟨w.heap.size + 1, 8, none⟩ = some v1 := by subst hW3; go_simp
  have y9 : W3.cell? ⟨w.heap.size + 1, 9, none⟩ = some v2 := by subst hW3; go_simp
  have y10 : W3.cell? ⟨w.heap.size + 1, 10, none⟩ = some v3 := by subst hW3; go_simp
  have y11 : W3.cell? ⟨w.heap.size + 1, 11, none⟩ = some (.int .i64 dst) := by subst hW3; go_simp
  have w3 : W3.cell? ⟨wb, 0, none⟩ = some (.slice a L.length c) := (hB3.cell (p := ⟨wb, 0, none⟩) zw).trans w0
  clear hW3 w0 wf s0 s1 s2 s3 s4 s5 s6 s7
  have zw3 : wb < W3.heap.size := by omega
  have HB3 := hid hB3
  have hE : Hid (InsE W3.drew S (⟨op, reg, vv, xa, xb, dst⟩, ⟨u0, u1, u2, u3, v0, v1, v2, v3⟩)) := by
    have hk : ∀ b o, S b → W3.drew.cell? ⟨b, o, none⟩ = w.cell? ⟨b, o, none⟩ := fun b o hb => HB3.out.drew.cell (p := ⟨b, o, none⟩) (by have := hS b hb; show b < w.heap.size; omega)
    exact ⟨Hy.out.1.keep hk, Hy.out.2.keep hk⟩
  have HR : Hid (WrIs W3.drew n0 S wb (.slice a L.length c) L) := HW.out.below HB3.out.drew
  clear hB3
  generalize hpb : w.heap.size = pb at *
  have hSd : ∀ W, Below W3.heap.size W3 W ∨ W3.grownBy W (Value.slice a L.length c).ownBlock → (W.cell? ⟨pb, 0, none⟩ = some (.pointer (some ⟨wb, 0, none⟩)) ∧ ∀ j, W.cell? ⟨pb + 1, j, none⟩ = W3.cell? ⟨pb + 1, j, none⟩) := by
    intro W h
    have own0 := HW.out.own
    have q0 : W.heap[pb]? = W3.heap[pb]? := by
      rcases h with h | h
      · exact h.block _ (by omega)
      · exact h.block _ (by omega) (fun e => by have := (own0 _ e.symm).2; omega)
    have q1 : W.heap[pb + 1]? = W3.heap[pb + 1]? := by
      rcases h with h | h
      · exact h.block _ (by omega)
      · exact h.block _ (by omega) (fun e => by have := (own0 _ e.symm).2; omega)
    exact ⟨(World.cell?_of_block (a := ⟨pb, 0, none⟩) q0).trans p0, fun j => World.cell?_of_block (a := ⟨pb + 1, j, none⟩) q1⟩
  have HSd := hid hSd
  have hwp : wb ≠ pb ∧ wb ≠ pb + 1 := by have := HW.out.hi; omega
  obtain ⟨hwp1, hwp2⟩ := hwp
  clear hSd
  refine wp_region_held_drew (S := fun W => W.cell? ⟨pb, 0, none⟩ = some (.pointer (some ⟨wb, 0, none⟩)) ∧ ∀ j, W.cell? ⟨pb + 1, j, none⟩ = W3.cell? ⟨pb + 1, j, none⟩) (by kernel_rfl) (HSd.out _ (.inl (Below.refl _ _).drew)) (fun hHeld => ?_)
  refine takeL (i := 0) (v := ?_) rfl (by kernel_rfl) (by kernel_rfl) (by kernel_rfl) (fun _ _ _ h => h) (Or.inl ⟨by rfl, ?_⟩) (by assumption) ?_
  rotate_left
  focus (intro w hSw; go_simp; try with_reducible rfl)
  simp only [Act.put, List.setIfInBounds_toArray, List.set_cons_zero, List.set_cons_succ]
  refine takeL (i := 1) (v := ?_) rfl (by kernel_rfl) (by kernel_rfl) (by kernel_rfl) (fun _ _ _ h => h) (Or.inl ⟨by rfl, ?_⟩) (by assumption) ?_
  rotate_left
  focus (intro w hSw; go_simp; try with_reducible rfl)
  simp only [Act.put, List.setIfInBounds_toArray, List.set_cons_zero, List.set_cons_succ]
  refine takeL (i := 2) (v := ?_) rfl (by kernel_rfl) (by kernel_rfl) (by kernel_rfl) (fun _ _ _ h => h) (Or.inl ⟨by rfl, ?_⟩) (by assumption) ?_
  rotate_left
  focus (intro w hSw; go_simp; try with_reducible rfl)
  simp only [Act.put, List.setIfInBounds_toArray, List.set_cons_zero, List.set_cons_succ]
  refine takeL (i := 3) (v := ?_) rfl (by kernel_rfl) (by kernel_rfl) (by kernel_rfl) (fun _ _ _ h => h) (Or.inl ⟨by rfl, ?_⟩) (by assumption) ?_
  rotate_left
  focus (intro w hSw; go_simp; try with_reducible rfl)
  simp only [Act.put, List.setIfInBounds_toArray, List.set_cons_zero, List.set_cons_succ]
  refine takeL (i := 5) (v := ?_) rfl (by kernel_rfl) (by kernel_rfl) (by kernel_rfl) (fun _ _ _ h => h) (Or.inl ⟨by rfl, ?_⟩) (by assumption) ?_
  rotate_left
  focus (intro w hSw; go_simp; try with_reducible rfl)
  simp only [Act.put, List.setIfInBounds_toArray, List.set_cons_zero, List.set_cons_succ]
  refine callL2 (i := 4) (j := 6) (by kernel_rfl) rfl rfl (fun K hK => ?_) (fun K hK => ?_)
  · go_simp
    refine hK.out _ _ (HSd.out _ (.inl (Below.refl _ _).drew)) (fun hHeld => ?_)
    clear hK
    refine callL (i := 6) (by kernel_rfl) rfl (fun K hK => ?_)
    go_simp
    refine hK.out _ _ (HSd.out _ (.inl ((Below.refl _ _).drew.alloc (Nat.le_refl _) _))) (fun hHeld => ?_)
    clear hK
    refine callL (i := 7) (by kernel_rfl) rfl (fun K hK => ?_)
    refine step_insO (base := n0) (S := S) (.tmp 15) (.tmp 17) (.slice a L.length c) L [⟨op, reg, vv, xa, xb, dst⟩] ?_ ?_ ?_ ?_ ?_ ?_ ?_ ?_ ?_
    · rfl
    · rfl
    · rfl
    · exact kept_alloc HR.out.row (fun b hb => by have := hS b hb; simp; omega) _
    · exact InsSrc.lit hE.out (fun b hb => by have := hS b hb; simp; omega)
    · simp; omega
    · simp; omega
    · exact hS
    intro A c' W4 hO4 hg4 hat4
    have HO4 := hid hO4
    have Hg4 : Hid (W3.grownBy W4 (Value.slice a L.length c).ownBlock) := ⟨hg4.os, hg4.tape, hg4.output, by have := hg4.size; simp at this; omega, fun k hk hr => (hg4.block k (by simp; omega) hr).trans (Below.heap_alloc _ _ _ (by simpa using hk))⟩
    have Hat4 : Hid ((Value.slice A (L.length + 1) c').ownBlock = (Value.slice a L.length c).ownBlock ∨ ∃ n, (Value.slice A (L.length + 1) c').ownBlock = some n ∧ W3.heap.size ≤ n) := by
      rcases hat4 with e | e
      · exact .inl e
      · exact .inr ⟨_, e, by simp⟩
    have c4 : W4.cell? ⟨wb, 0, none⟩ = some (.slice a L.length c) := (World.cell?_of_block (w := W3) (a := ⟨wb, 0, none⟩) (Hg4.out.block wb zw3 (fun e => HR.out.ne e.symm))).trans w3
    have f4 : W4.frozen? ⟨wb, 0, none⟩ = false := (World.frozen?_of_block (w := W3) (a := ⟨wb, 0, none⟩) (Hg4.out.block wb zw3 (fun e => HR.out.ne e.symm))).trans HR.out.fr
    clear hO4 hg4 hat4
    refine hK.out _ _ (HSd.out _ (.inr Hg4.out)) (fun hHeld => ?_)
    clear hK
    simp only [Act.put, List.setIfInBounds_toArray, List.set_cons_zero, List.set_cons_succ]
    refine takeL (i := 8) (v := ?_) rfl (by kernel_rfl) (by kernel_rfl) (by kernel_rfl) (fun _ _ _ h => h) (Or.inl ⟨by rfl, ?_⟩) (by assumption) ?_
    rotate_left
    focus (intro w hSw; go_simp; try with_reducible rfl)
    simp only [Act.put, List.setIfInBounds_toArray, List.set_cons_zero, List.set_cons_succ]
    refine takeL (i := 9) (v := ?_) rfl (by kernel_rfl) (by kernel_rfl) (by kernel_rfl) (fun _ _ _ h => h) (Or.inl ⟨by rfl, ?_⟩) (by assumption) ?_
    rotate_left
    focus (intro w hSw; go_simp; try with_reducible rfl)
    simp only [Act.put, List.setIfInBounds_toArray, List.set_cons_zero, List.set_cons_succ]
    refine callL (i := 10) (by kernel_rfl) rfl (fun K hK => ?_)
    go_simp
    refine hK.out _ _ ⟨by rw [World.cell?_setCell_other _ _ _ _ (by intro e; injection e; omega)]; exact hHeld.1, fun j => by rw [World.cell?_setCell_other _ _ _ _ (by intro e; injection e; omega)]; exact hHeld.2 j⟩ (fun hHeld => ?_)
    clear hK
    refine wpAnyH_done (by kernel_rfl) ?_ _
    go_wp2_with fail
    go_ret
    exact hfin.out W3 W4 A c' _ _ HB3.out (by omega) (by omega) (by omega) (by omega) p0 a0 HO4.out Hg4.out Hat4.out
  · go_simp
    refine hK.out _ _ (HSd.out _ (.inl ((Below.refl _ _).drew.alloc (Nat.le_refl _) _))) (fun hHeld => ?_)
    clear hK
    refine callL (i := 4) (by kernel_rfl) rfl (fun K hK => ?_)
    go_simp
    refine hK.out _ _ (HSd.out _ (.inl ((Below.refl _ _).drew.alloc (Nat.le_refl _) _))) (fun hHeld => ?_)
    clear hK
    refine callL (i := 7) (by kernel_rfl) rfl (fun K hK => ?_)
    refine step_insO (base := n0) (S := S) (.tmp 15) (.tmp 17) (.slice a L.length c) L [⟨op, reg, vv, xa, xb, dst⟩] ?_ ?_ ?_ ?_ ?_ ?_ ?_ ?_ ?_
    · rfl
    · rfl
    · rfl
    · exact kept_alloc HR.out.row (fun b hb => by have := hS b hb; simp; omega) _
    · exact InsSrc.lit hE.out (fun b hb => by have := hS b hb; simp; omega)
    · simp; omega
    · simp; omega
    · exact hS
    intro A c' W4 hO4 hg4 hat4
    have HO4 := hid hO4
    have Hg4 : Hid (W3.grownBy W4 (Value.slice a L.length c).ownBlock) := ⟨hg4.os, hg4.tape, hg4.output, by have := hg4.size; simp at this; omega, fun k hk hr => (hg4.block k (by simp; omega) hr).trans (Below.heap_alloc _ _ _ (by simpa using hk))⟩
    have Hat4 : Hid ((Value.slice A (L.length + 1) c').ownBlock = (Value.slice a L.length c).ownBlock ∨ ∃ n, (Value.slice A (L.length + 1) c').ownBlock = some n ∧ W3.heap.size ≤ n) := by
      rcases hat4 with e | e
      · exact .inl e
      · exact .inr ⟨_, e, by simp⟩
    have c4 : W4.cell? ⟨wb, 0, none⟩ = some (.slice a L.length c) := (World.cell?_of_block (w := W3) (a := ⟨wb, 0, none⟩) (Hg4.out.block wb zw3 (fun e => HR.out.ne e.symm))).trans w3
    have f4 : W4.frozen? ⟨wb, 0, none⟩ = false := (World.frozen?_of_block (w := W3) (a := ⟨wb, 0, none⟩) (Hg4.out.block wb zw3 (fun e => HR.out.ne e.symm))).trans HR.out.fr
    clear hO4 hg4 hat4
    refine hK.out _ _ (HSd.out _ (.inr Hg4.out)) (fun hHeld => ?_)
    clear hK
    simp only [Act.put, List.setIfInBounds_toArray, List.set_cons_zero, List.set_cons_succ]
    refine takeL (i := 8) (v := ?_) rfl (by kernel_rfl) (by kernel_rfl) (by kernel_rfl) (fun _ _ _ h => h) (Or.inl ⟨by rfl, ?_⟩) (by assumption) ?_
    rotate_left
    focus (intro w hSw; go_simp; try with_reducible rfl)
    simp only [Act.put, List.setIfInBounds_toArray, List.set_cons_zero, List.set_cons_succ]
    refine takeL (i := 9) (v := ?_) rfl (by kernel_rfl) (by kernel_rfl) (by kernel_rfl) (fun _ _ _ h => h) (Or.inl ⟨by rfl, ?_⟩) (by assumption) ?_
    rotate_left
    focus (intro w hSw; go_simp; try with_reducible rfl)
    simp only [Act.put, List.setIfInBounds_toArray, List.set_cons_zero, List.set_cons_succ]
    refine callL (i := 10) (by kernel_rfl) rfl (fun K hK => ?_)
    go_simp
    refine hK.out _ _ ⟨by rw [World.cell?_setCell_other _ _ _ _ (by intro e; injection e; omega)]; exact hHeld.1, fun j => by rw [World.cell?_setCell_other _ _ _ _ (by intro e; injection e; omega)]; exact hHeld.2 j⟩ (fun hHeld => ?_)
    clear hK
    refine wpAnyH_done (by kernel_rfl) ?_ _
    go_wp2_with fail
    go_ret
    exact hfin.out W3 W4 A c' _ _ HB3.out (by omega) (by omega) (by omega) (by omega) p0 a0 HO4.out Hg4.out Hat4.out
end Go.Proofs.YtcgpobeidlimkaaGreatDoor
