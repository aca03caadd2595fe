/- Statements as instructions: the program's word. -/
import Derived.Test.YtcgpobeidlimkaaGreatDoorWld
import Derived.Test.YtcgpobeidlimkaaGreatDoorBunC
import Derived.Deep.CutRange
import Derived.Deep.CutBlock
namespace Go.Proofs.YtcgpobeidlimkaaGreatDoor
open Go.RowKit

def PBlk (n0 : Nat) (S : Nat → Prop) (n : Nat) : Prop := ∀ (l : List St) (a : Option Addr) (cap wb : Nat) (v : Value) (L : List Ins) (w : World), cntL l ≤ n → L.length + 2 * cntL l ≤ 40000 → StRow w S a l.length cap l → WrIs w n0 S wb v L →
  Calls Tryz.prog 26 #[.pointer (some ⟨wb, 0, none⟩), .slice a l.length cap] w (WPost n0 S wb v (L ++ cmpL l L.length) w)
def PCho (n0 : Nat) (S : Nat → Prop) (n : Nat) : Prop := ∀ (x : St) (cs : List Value) (wb : Nat) (v : Value) (L : List Ins) (w : World), x.kind = 10 → cntS x ≤ n → L.length + 2 * cntS x ≤ 40000 → StIn w S cs x → WrIs w n0 S wb v L →
  Calls Tryz.prog 52 #[.pointer (some ⟨wb, 0, none⟩), .agg cs.toArray] w (WPost n0 S wb v (L ++ cmpS x L.length) w)
def PLoo (n0 : Nat) (S : Nat → Prop) (n : Nat) : Prop := ∀ (x : St) (cs : List Value) (wb : Nat) (v : Value) (L : List Ins) (w : World), x.kind = 11 → cntS x ≤ n → L.length + 2 * cntS x ≤ 40000 → StIn w S cs x → WrIs w n0 S wb v L →
  Calls Tryz.prog 53 #[.pointer (some ⟨wb, 0, none⟩), .agg cs.toArray] w (WPost n0 S wb v (L ++ cmpS x L.length) w)

/-- What lies within S is kept while the writer writes. -/
theorem Wx.low {w w' : World} {n0 wb : Nat} {S : Nat → Prop} {v v' : Value} {L : List Ins} (h : Wx wb w v w' v') (hW : WrIs w n0 S wb v L) : Below n0 w w' :=
  h.below (by have := hW.hi; have := hW.lo; omega) hW.lo fun k hk => (hW.own k hk).1
theorem WrIs.alloc {w : World} {n0 wb : Nat} {S : Nat → Prop} {v : Value} {L : List Ins} (h : WrIs w n0 S wb v L) (o : Obj) : WrIs (w.alloc o) n0 S wb v L := h.below ((Below.refl _ _).alloc (Nat.le_refl _) o)
theorem Wx.alloc {w w' : World} {wb : Nat} {v v' : Value} {o : Obj} (h : Wx wb (w.alloc o) v w' v') : Wx wb w v w' v' := (Wx.of_below ((Below.refl _ _).alloc (Nat.le_refl _) o)).trans h

/-- The writer's block behind an append. -/
theorem wr_put {W3 W4 : World} {n0 wb : Nat} {S : Nat → Prop} {v v' : Value} {L M : List Ins} (hW : WrIs W3 n0 S wb v L) (hO : InsO W4 n0 S v' M) (hg : W3.grownBy W4 v.ownBlock) (hat : v'.ownBlock = v.ownBlock ∨ ∃ n, v'.ownBlock = some n ∧ W3.heap.size ≤ n) :
    (WrIs (W4.setCell ⟨wb, 0, none⟩ v') n0 S wb v' M ∧ Wx wb W3 v (W4.setCell ⟨wb, 0, none⟩ v') v') ∧ W4.cell? ⟨wb, 0, none⟩ = some v ∧ W4.frozen? ⟨wb, 0, none⟩ = false := by
  have hnw : v'.ownBlock ≠ some wb := by
    rcases hat with e | ⟨n, e, hn⟩
    · rw [e]; exact hW.ne
    · rw [e]; intro h; have := hW.hi; simp at h; omega
  have hx2 : Wx wb W3 v W4 v' := Wx.of_grown hg hat
  have hx3 : Wx wb W4 v' (W4.setCell ⟨wb, 0, none⟩ v') v' := Wx.set _ _ _ _ rfl
  have c4 : W4.cell? ⟨wb, 0, none⟩ = some v := (World.cell?_of_block (w := W3) (a := ⟨wb, 0, none⟩) (hg.block wb hW.hi (fun e => hW.ne e.symm))).trans hW.c0
  have f4 : W4.frozen? ⟨wb, 0, none⟩ = false := (World.frozen?_of_block (w := W3) (a := ⟨wb, 0, none⟩) (hg.block wb hW.hi (fun e => hW.ne e.symm))).trans hW.fr
  refine ⟨⟨⟨hW.lo, ?_, by go_simp, by go_simp, ?_, hnw, hW.sb⟩, hx2.trans hx3⟩, c4, f4⟩
  · have h1 := hx2.size; have h2 := hW.hi; simp; omega
  · refine InsO.kept (r := some wb) hO ⟨rfl, rfl, rfl, by simp, fun k _ hk => Below.heap_setCell _ _ _ _ (by intro e; exact hk (by rw [e]))⟩ (.inr hnw) fun b hb => ⟨?_, ?_⟩
    · have h0 := hW.sb b hb; have h1 := hW.lo; have h2 := hW.hi; have h3 := hx2.size; omega
    · have h0 := hW.sb b hb; have h1 := hW.lo; intro e; injection e; omega
/-- .. of what lies in a new block. -/
theorem wr_app {W3 W4 : World} {n0 wb : Nat} {S : Nat → Prop} {v v' : Value} {L M : List Ins} {o : Obj} (hW : WrIs W3 n0 S wb v L) (hO : InsO W4 n0 S v' M) (hg : (W3.alloc o).grownBy W4 v.ownBlock) (hat : v'.ownBlock = v.ownBlock ∨ v'.ownBlock = some (W3.alloc o).heap.size) :
    (WrIs (W4.setCell ⟨wb, 0, none⟩ v') n0 S wb v' M ∧ Wx wb W3 v (W4.setCell ⟨wb, 0, none⟩ v') v') ∧ W4.cell? ⟨wb, 0, none⟩ = some v ∧ W4.frozen? ⟨wb, 0, none⟩ = false :=
  wr_put hW hO ⟨hg.os, hg.tape, hg.output, by have := hg.size; simp at this; omega, fun k hk hr => (hg.block k (by simp; omega) hr).trans (Below.heap_alloc _ _ _ hk)⟩ (by
    rcases hat with e | e
    · exact .inl e
    · exact .inr ⟨_, e, by simp⟩)

set_option maxRecDepth 100000 in
set_option maxHeartbeats 8000000 in
theorem pcho_step (n0 : Nat) (S : Nat → Prop) (n : Nat) (hbl : ∀ m, m < n → PBlk n0 S m) : PCho n0 S n := by
  intro x cs wb v L w hk hn hlim hin hWr
  have Hbl := hid hbl
  have hce := cntS_eq x
  have hres := cmpS_eq x L.length
  obtain ⟨xk, xr, xv, xa, xb, xt, xe⟩ := x
  obtain ⟨u0, u1, u2, u3, v0, v1, v2, v3, ta, ea, tc, ec, rfl, ha, hb, ht, he⟩ := hin.open_
  simp only [St.t, St.e] at hce
  simp only [St.kind] at hk
  have hlA := cmpL_len xt (L.length + 1)
  have hlB := cmpL_len xe (L.length + 2 + (cmpL xt (L.length + 1)).length)
  have hec := he.le
  have hem := he.mx
  unfold maxLen at hem
  subst hk
  have hS := hWr.sb
  generalize hW : w.alloc (.cells #[.int .i64 10, .int .i64 xr, .int .i64 xv, u0, u1, u2, u3, v0, v1, v2, v3, .slice ta xt.length tc, .slice ea xe.length ec] 56) = W0
  have hB0 : Below w.heap.size w W0 := by subst hW; exact (Below.refl _ _).alloc (Nat.le_refl _) _
  have hxb : w.heap.size < W0.heap.size := by subst hW; simp
  have hbw : w.heap.size ≠ wb := by have := hWr.hi; omega
  have hbo : v.ownBlock ≠ some w.heap.size := fun e => by have := (hWr.own _ e).2; omega
  have HWr := hid (hWr.below hB0)
  have Ha := hid (ha.at0 (n0 := n0) (hB0.mono (by have := hWr.lo; have := hWr.hi; omega)) hS)
  have Ht := hid (ht.at0 (n0 := n0) (hB0.mono (by have := hWr.lo; have := hWr.hi; omega)) hS)
  have He := hid (he.at0 (n0 := n0) (hB0.mono (by have := hWr.lo; have := hWr.hi; omega)) hS)
  have c3 : W0.cell? ⟨w.heap.size, 3, none⟩ = some u0 := by subst hW; go_simp
  have c4 : W0.cell? ⟨w.heap.size, 4, none⟩ = some u1 := by subst hW; go_simp
  have c5 : W0.cell? ⟨w.heap.size, 5, none⟩ = some u2 := by subst hW; go_simp
  have c6 : W0.cell? ⟨w.heap.size, 6, none⟩ = some u3 := by subst hW; go_simp
  have c11 : W0.cell? ⟨w.heap.size, 11, none⟩ = some (.slice ta xt.length tc) := by subst hW; go_simp
  have c12 : W0.cell? ⟨w.heap.size, 12, none⟩ = some (.slice ea xe.length ec) := by subst hW; go_simp
  have hX0 : Wx wb w v W0 v := Wx.of_below hB0
  have HX0 := hid hX0
  have hWx := hid hW
  have hlo := hWr.lo
  have HWr0 := hid hWr
  have hcA : Hid (Calls Tryz.prog 84 #[.pointer (some ⟨wb, 0, none⟩), .agg #[.int .i64 12, .int .i64 0, .int .i64 0, u0, u1, u2, u3, .int .i64 0, .int .i64 0, .int .u8 0, .slice none 0 0, .int .i64 0]] W0 (LeadPost n0 S wb v L ⟨12, 0, 0, xa, exZ, 0⟩ W0)) :=
    lead_any n0 S wb v L (⟨12, 0, 0, xa, exZ, 0⟩, ⟨u0, u1, u2, u3, .int .i64 0, .int .i64 0, .int .u8 0, .slice none 0 0⟩) W0 HWr.out ⟨Ha.out, exZ_in _ _⟩ (by omega)
  have hcJ : Hid (∀ W v1 (L1 : List Ins), L1.length ≤ 50000 → WrIs W n0 S wb v1 L1 → Calls Tryz.prog 84 #[.pointer (some ⟨wb, 0, none⟩), .agg #[.int .i64 13, .int .i64 0, .int .i64 0, .int .i64 0, .int .i64 0, .int .u8 0, .slice none 0 0, .int .i64 0, .int .i64 0, .int .u8 0, .slice none 0 0, .int .i64 0]] W (LeadPost n0 S wb v1 L1 ⟨13, 0, 0, exZ, exZ, 0⟩ W)) := fun W v1 L1 h hw =>
    lead_any n0 S wb v1 L1 (⟨13, 0, 0, exZ, exZ, 0⟩, ⟨.int .i64 0, .int .i64 0, .int .u8 0, .slice none 0 0, .int .i64 0, .int .i64 0, .int .u8 0, .slice none 0 0⟩) W hw ⟨exZ_in _ _, exZ_in _ _⟩ h
  have hcT : Hid (∀ W v1 (L1 : List Ins), L1.length = L.length + 1 → WrIs W n0 S wb v1 L1 → Below n0 W0 W → Calls Tryz.prog 26 #[.pointer (some ⟨wb, 0, none⟩), .slice ta xt.length tc] W (WPost n0 S wb v1 (L1 ++ cmpL xt (L.length + 1)) W)) := fun W v1 L1 h hw hb => by
    have := Hbl.out (cntL xt) (by omega) xt ta tc wb v1 L1 W (Nat.le_refl _) (by omega) (Ht.out.at0 hb hS) hw
    rwa [h] at this
  have hcE : Hid (∀ W v1 (L1 : List Ins), L1.length = L.length + 2 + (cmpL xt (L.length + 1)).length → WrIs W n0 S wb v1 L1 → Below n0 W0 W → Calls Tryz.prog 26 #[.pointer (some ⟨wb, 0, none⟩), .slice ea xe.length ec] W (WPost n0 S wb v1 (L1 ++ cmpL xe (L.length + 2 + (cmpL xt (L.length + 1)).length)) W)) := fun W v1 L1 h hw hb => by
    have := Hbl.out (cntL xe) (by omega) xe ea ec wb v1 L1 W (Nat.le_refl _) (by omega) (He.out.at0 hb hS) hw
    rwa [h] at this
  have hla : (cmpL xt (L.length + 1)).length + L.length ≤ 40000 := by omega
  have hlb : (cmpL xe (L.length + 2 + (cmpL xt (L.length + 1)).length)).length + L.length + (cmpL xt (L.length + 1)).length ≤ 40000 := by omega
  clear hW ha hb ht he hin hbl hB0 hX0 hWr hlA hlB
  have hl1 : L.length ≤ 40000 := by omega
  have hc1 : Hid (∀ W v1 (L1 : List Ins) pb ab i, i < L1.length → L1.length ≤ 100000 → WrIs W n0 S wb v1 L1 → LdB W wb pb ab v1 i → Calls Tryz.prog 103 #[.pointer (some ⟨pb, 0, none⟩), .pointer (some ⟨ab, 0, none⟩)] W fun e w' => e = .returned (.tuple #[]) ∧ WrIs w' n0 S wb v1 (setTo L1 i L1.length) ∧ Wx wb W v1 w' v1) := fun W v1 L1 pb ab i h1 h2 hw hl => lead1_any n0 S wb pb ab v1 L1 i W hw hl h1 h2
  by_cases he0 : xe.length = 0
  · have hres2 := hid (hres.trans (cmpF_a L.length (cmpL xt) (cmpL xe) rfl he0))
    simp only [St.a] at hres2
    have he0b : (xe.length : Int) = 0 := by omega
    clear hres he0 hcE hlb
    generalize cmpS (.mk 10 xr xv xa xb xt xe) L.length = R at *
    generalize cmpL xt (L.length + 1) = A at *
    go_enter Tryz.func52, Tryz.ntmps52
    go_wp2_with (first
      | (go_at_call 84
         rw [hWx.out]
         with_reducible refine hcA.out.mono ?_
         rintro e w1 ⟨pb, ab, v1, rfl, hW1, hX1, hL1⟩
         have HW1 := hid hW1
         have HX1 := hid (HX0.out.trans hX1)
         have HL1 := hid hL1
         have d11 : w1.cell? ⟨w.heap.size, 11, none⟩ = some (.slice ta xt.length tc) := (hX1.cell hxb hbw hbo).trans c11
         have d12 : w1.cell? ⟨w.heap.size, 12, none⟩ = some (.slice ea xe.length ec) := (hX1.cell hxb hbw hbo).trans c12
         have z1 : w.heap.size < w1.heap.size := Nat.lt_of_lt_of_le hxb hX1.size
         have o1 := hid (hX1.keepOwn hxb hbo)
         have B1 := hid (hX1.low HWr.out)
         clear hW1 hX1 hL1)
      | (go_at_call 26
         with_reducible refine (hcT.out w1 v1 (L ++ [(⟨12, 0, 0, xa, exZ, 0⟩ : Ins)]) ?_ HW1.out B1.out).mono ?_
         (focus simp)
         rintro e w2 ⟨rfl, v2, hW2, hX2⟩
         have HW2 := hid hW2
         have HX2 := hid (HX1.out.trans hX2)
         have HL2 := hid (HL1.out.keep hX2)
         have d12' : w2.cell? ⟨w.heap.size, 12, none⟩ = some (.slice ea xe.length ec) := (hX2.cell z1 hbw o1.out).trans d12
         have z2 : w.heap.size < w2.heap.size := Nat.lt_of_lt_of_le z1 hX2.size
         clear hW2 hX2)
      | (go_at_call 103
         with_reducible refine (hc1.out w2 v2 (L ++ [(⟨12, 0, 0, xa, exZ, 0⟩ : Ins)] ++ A) pb ab L.length ?_ ?_ HW2.out HL2.out).mono ?_
         (focus (simp <;> omega))
         (focus (simp <;> omega))
         rintro e w3 ⟨rfl, hW3, hX3⟩)
      | fail)
    go_end0
    refine ⟨rfl, v2, ?_, HX2.out.trans hX3⟩
    have hR : L ++ R = setTo (L ++ [(⟨12, 0, 0, xa, exZ, 0⟩ : Ins)] ++ A) L.length (L ++ [(⟨12, 0, 0, xa, exZ, 0⟩ : Ins)] ++ A).length := by
      rw [hres2.out, List.append_assoc, List.singleton_append, setTo_app]
      simp [brI]; omega
    rw [hR]
    exact hW3
  · have hres2 := hid (hres.trans (cmpF_b L.length (cmpL xt) (cmpL xe) rfl he0))
    simp only [St.a] at hres2
    have he0b : ¬ (xe.length : Int) = 0 := by omega
    have he1b : (0 : Int) < xe.length := by omega
    clear hres he0
    generalize cmpS (.mk 10 xr xv xa xb xt xe) L.length = R at *
    generalize cmpL xt (L.length + 1) = A at *
    generalize cmpL xe (L.length + 2 + A.length) = B at *
    go_enter Tryz.func52, Tryz.ntmps52
    go_wp2_with (first
      | (go_at_call 84
         rw [hWx.out]
         with_reducible refine hcA.out.mono ?_
         rintro e w1 ⟨pb, ab, v1, rfl, hW1, hX1, hL1⟩
         have HW1 := hid hW1
         have HX1 := hid (HX0.out.trans hX1)
         have HL1 := hid hL1
         have d11 : w1.cell? ⟨w.heap.size, 11, none⟩ = some (.slice ta xt.length tc) := (hX1.cell hxb hbw hbo).trans c11
         have d12 : w1.cell? ⟨w.heap.size, 12, none⟩ = some (.slice ea xe.length ec) := (hX1.cell hxb hbw hbo).trans c12
         have z1 : w.heap.size < w1.heap.size := Nat.lt_of_lt_of_le hxb hX1.size
         have o1 := hid (hX1.keepOwn hxb hbo)
         have B1 := hid (hX1.low HWr.out)
         clear hW1 hX1 hL1)
      | (go_at_call 26
         with_reducible refine (hcT.out w1 v1 (L ++ [(⟨12, 0, 0, xa, exZ, 0⟩ : Ins)]) ?_ HW1.out B1.out).mono ?_
         (focus simp)
         rintro e w2 ⟨rfl, v2, hW2, hX2⟩
         have HW2 := hid hW2
         have HX2 := hid (HX1.out.trans hX2)
         have HL2 := hid (HL1.out.keep hX2)
         have d12' : w2.cell? ⟨w.heap.size, 12, none⟩ = some (.slice ea xe.length ec) := (hX2.cell z1 hbw o1.out).trans d12
         have z2 : w.heap.size < w2.heap.size := Nat.lt_of_lt_of_le z1 hX2.size
         have o2 := hid (hX2.keepOwn z1 o1.out)
         have B2 := hid (B1.out.trans (hX2.low HW1.out))
         have hcJ2 := hid (hcJ.out w2 v2 (L ++ [(⟨12, 0, 0, xa, exZ, 0⟩ : Ins)] ++ A) (by simp; omega) hW2)
         clear hW2 hX2)
      | (go_at_call 84
         with_reducible refine hcJ2.out.mono ?_
         rintro e w3 ⟨pb3, ab3, v3', rfl, hW3, hX3, hL3⟩
         have HW3 := hid hW3
         have HX3 := hid (HX2.out.trans hX3)
         have HL3 := hid hL3
         have HLA := hid (HL2.out.keep hX3)
         have d12'' : w3.cell? ⟨w.heap.size, 12, none⟩ = some (.slice ea xe.length ec) := (hX3.cell z2 hbw o2.out).trans d12'
         have z3 : w.heap.size < w3.heap.size := Nat.lt_of_lt_of_le z2 hX3.size
         have o3' := hid (hX3.keepOwn z2 o2.out)
         have B3 := hid (B2.out.trans (hX3.low HW2.out))
         clear hW3 hX3 hL3)
      | (go_at_call 103
         with_reducible refine (hc1.out w3 v3' (L ++ [(⟨12, 0, 0, xa, exZ, 0⟩ : Ins)] ++ A ++ [(⟨13, 0, 0, exZ, exZ, 0⟩ : Ins)]) pb ab L.length ?_ ?_ HW3.out HLA.out).mono ?_
         (focus (simp <;> omega))
         (focus (simp <;> omega))
         rintro e w4 ⟨rfl, hW4, hX4⟩
         have HW4 := hid hW4
         have HX4 := hid (HX3.out.trans hX4)
         have HL4 := hid (HL3.out.keep hX4)
         have e12 : w4.cell? ⟨w.heap.size, 12, none⟩ = some (.slice ea xe.length ec) := (hX4.cell z3 hbw o3'.out).trans d12''
         have z4 : w.heap.size < w4.heap.size := Nat.lt_of_lt_of_le z3 hX4.size
         have B4 := hid (B3.out.trans (hX4.low HW3.out))
         clear hW4 hX4)
      | (go_at_call 26
         (with_reducible refine (hcE.out w4 v3' (setTo (L ++ [(⟨12, 0, 0, xa, exZ, 0⟩ : Ins)] ++ A ++ [(⟨13, 0, 0, exZ, exZ, 0⟩ : Ins)]) L.length (L ++ [(⟨12, 0, 0, xa, exZ, 0⟩ : Ins)] ++ A ++ [(⟨13, 0, 0, exZ, exZ, 0⟩ : Ins)]).length) ?_ HW4.out B4.out).mono ?_)
         (focus (simp only [List.length_append, setTo_len, List.length_cons, List.length_nil]; omega))
         rintro e w5 ⟨rfl, v5, hW5, hX5⟩
         have HW5 := hid hW5
         have HX5 := hid (HX4.out.trans hX5)
         have HL5 := hid (HL4.out.keep hX5)
         clear hW5 hX5)
      | (go_at_call 103
         with_reducible refine (hc1.out w5 v5 (setTo (L ++ [(⟨12, 0, 0, xa, exZ, 0⟩ : Ins)] ++ A ++ [(⟨13, 0, 0, exZ, exZ, 0⟩ : Ins)]) L.length (L ++ [(⟨12, 0, 0, xa, exZ, 0⟩ : Ins)] ++ A ++ [(⟨13, 0, 0, exZ, exZ, 0⟩ : Ins)]).length ++ B) pb3 ab3 (L ++ [(⟨12, 0, 0, xa, exZ, 0⟩ : Ins)] ++ A).length ?_ ?_ HW5.out HL5.out).mono ?_
         (focus (simp only [List.length_append, setTo_len, List.length_cons, List.length_nil]; omega))
         (focus (simp only [List.length_append, setTo_len, List.length_cons, List.length_nil]; omega))
         rintro e w6 ⟨rfl, hW6, hX6⟩)
      | fail)
    go_end0
    refine ⟨rfl, v5, ?_, HX5.out.trans hX6⟩
    have hR : L ++ R = setTo (setTo (L ++ [(⟨12, 0, 0, xa, exZ, 0⟩ : Ins)] ++ A ++ [(⟨13, 0, 0, exZ, exZ, 0⟩ : Ins)]) L.length (L ++ [(⟨12, 0, 0, xa, exZ, 0⟩ : Ins)] ++ A ++ [(⟨13, 0, 0, exZ, exZ, 0⟩ : Ins)]).length ++ B) (L ++ [(⟨12, 0, 0, xa, exZ, 0⟩ : Ins)] ++ A).length (setTo (L ++ [(⟨12, 0, 0, xa, exZ, 0⟩ : Ins)] ++ A ++ [(⟨13, 0, 0, exZ, exZ, 0⟩ : Ins)]) L.length (L ++ [(⟨12, 0, 0, xa, exZ, 0⟩ : Ins)] ++ A ++ [(⟨13, 0, 0, exZ, exZ, 0⟩ : Ins)]).length ++ B).length := by
      have e1 : L ++ [(⟨12, 0, 0, xa, exZ, 0⟩ : Ins)] ++ A ++ [(⟨13, 0, 0, exZ, exZ, 0⟩ : Ins)] = L ++ (⟨12, 0, 0, xa, exZ, 0⟩ : Ins) :: (A ++ [(⟨13, 0, 0, exZ, exZ, 0⟩ : Ins)]) := by simp
      rw [e1, setTo_app]
      have e2 : L ++ (⟨12, 0, 0, xa, exZ, ((L ++ (⟨12, 0, 0, xa, exZ, 0⟩ : Ins) :: (A ++ [(⟨13, 0, 0, exZ, exZ, 0⟩ : Ins)])).length : Int)⟩ : Ins) :: (A ++ [(⟨13, 0, 0, exZ, exZ, 0⟩ : Ins)]) ++ B =
          (L ++ (⟨12, 0, 0, xa, exZ, ((L ++ (⟨12, 0, 0, xa, exZ, 0⟩ : Ins) :: (A ++ [(⟨13, 0, 0, exZ, exZ, 0⟩ : Ins)])).length : Int)⟩ : Ins) :: A) ++ (⟨13, 0, 0, exZ, exZ, 0⟩ : Ins) :: B := by simp
      rw [e2]
      have e3 : (L ++ [(⟨12, 0, 0, xa, exZ, 0⟩ : Ins)] ++ A).length = (L ++ (⟨12, 0, 0, xa, exZ, ((L ++ (⟨12, 0, 0, xa, exZ, 0⟩ : Ins) :: (A ++ [(⟨13, 0, 0, exZ, exZ, 0⟩ : Ins)])).length : Int)⟩ : Ins) :: A).length := by simp
      rw [e3, setTo_app, hres2.out]
      simp [brI, juI]
      omega
    rw [hR]
    exact hW6

set_option maxRecDepth 100000 in
set_option maxHeartbeats 8000000 in
theorem ploo_step (n0 : Nat) (S : Nat → Prop) (n : Nat) (hbl : ∀ m, m < n → PBlk n0 S m) : PLoo n0 S n := by
  intro x cs wb v L w hk hn hlim hin hWr
  have Hbl := hid hbl
  have hce := cntS_eq x
  have hres := cmpS_eq x L.length
  obtain ⟨xk, xr, xv, xa, xb, xt, xe⟩ := x
  obtain ⟨u0, u1, u2, u3, v0, v1, v2, v3, ta, ea, tc, ec, rfl, ha, hb, ht, he⟩ := hin.open_
  simp only [St.t, St.e] at hce
  simp only [St.kind] at hk
  have hlA := cmpL_len xt (L.length + 1)
  subst hk
  have hS := hWr.sb
  generalize hW : w.alloc (.cells #[.int .i64 11, .int .i64 xr, .int .i64 xv, u0, u1, u2, u3, v0, v1, v2, v3, .slice ta xt.length tc, .slice ea xe.length ec] 56) = W0
  have hB0 : Below w.heap.size w W0 := by subst hW; exact (Below.refl _ _).alloc (Nat.le_refl _) _
  have hxb : w.heap.size < W0.heap.size := by subst hW; simp
  have hbw : w.heap.size ≠ wb := by have := hWr.hi; omega
  have hbo : v.ownBlock ≠ some w.heap.size := fun e => by have := (hWr.own _ e).2; omega
  have HWr := hid (hWr.below hB0)
  have Ha := hid (ha.at0 (n0 := n0) (hB0.mono (by have := hWr.lo; have := hWr.hi; omega)) hS)
  have Ht := hid (ht.at0 (n0 := n0) (hB0.mono (by have := hWr.lo; have := hWr.hi; omega)) hS)
  have c3 : W0.cell? ⟨w.heap.size, 3, none⟩ = some u0 := by subst hW; go_simp
  have c4 : W0.cell? ⟨w.heap.size, 4, none⟩ = some u1 := by subst hW; go_simp
  have c5 : W0.cell? ⟨w.heap.size, 5, none⟩ = some u2 := by subst hW; go_simp
  have c6 : W0.cell? ⟨w.heap.size, 6, none⟩ = some u3 := by subst hW; go_simp
  have c11 : W0.cell? ⟨w.heap.size, 11, none⟩ = some (.slice ta xt.length tc) := by subst hW; go_simp
  have hX0 : Wx wb w v W0 v := Wx.of_below hB0
  have HX0 := hid hX0
  have hWx := hid hW
  have hlo := hWr.lo
  obtain ⟨av, cv, hv0⟩ := hWr.row.sl
  have hcm : L.length ≤ cv ∧ cv ≤ maxLen := by
    obtain ⟨a', c', e, hr⟩ := hWr.row.row
    rw [hv0] at e
    simp only [Value.slice.injEq, true_and] at e
    obtain ⟨rfl, rfl⟩ := e
    exact ⟨hr.le, hr.mx⟩
  obtain ⟨hcm1, hcm2⟩ := hcm
  unfold maxLen at hcm2
  have wc0 : w.cell? ⟨wb, 0, none⟩ = some (.slice av L.length cv) := by rw [← hv0]; exact hWr.c0
  have wz0 := hWr.hi
  have hcA : Hid (Calls Tryz.prog 84 #[.pointer (some ⟨wb, 0, none⟩), .agg #[.int .i64 12, .int .i64 0, .int .i64 0, u0, u1, u2, u3, .int .i64 0, .int .i64 0, .int .u8 0, .slice none 0 0, .int .i64 0]] W0 (LeadPost n0 S wb v L ⟨12, 0, 0, xa, exZ, 0⟩ W0)) :=
    lead_any n0 S wb v L (⟨12, 0, 0, xa, exZ, 0⟩, ⟨u0, u1, u2, u3, .int .i64 0, .int .i64 0, .int .u8 0, .slice none 0 0⟩) W0 HWr.out ⟨Ha.out, exZ_in _ _⟩ (by omega)
  have hcT : Hid (∀ W v1 (L1 : List Ins), L1.length = L.length + 1 → WrIs W n0 S wb v1 L1 → Below n0 W0 W → Calls Tryz.prog 26 #[.pointer (some ⟨wb, 0, none⟩), .slice ta xt.length tc] W (WPost n0 S wb v1 (L1 ++ cmpL xt (L.length + 1)) W)) := fun W v1 L1 h hw hb => by
    have := Hbl.out (cntL xt) (by omega) xt ta tc wb v1 L1 W (Nat.le_refl _) (by omega) (Ht.out.at0 hb hS) hw
    rwa [h] at this
  have hla : (cmpL xt (L.length + 1)).length + L.length ≤ 40000 := by omega
  clear hW ha hb ht he hin hbl hB0 hX0 hWr hlA
  have hl1 : L.length ≤ 40000 := by omega
  have hc1 : Hid (∀ W v1 (L1 : List Ins) pb ab i, i < L1.length → L1.length ≤ 100000 → WrIs W n0 S wb v1 L1 → LdB W wb pb ab v1 i → Calls Tryz.prog 103 #[.pointer (some ⟨pb, 0, none⟩), .pointer (some ⟨ab, 0, none⟩)] W fun e w' => e = .returned (.tuple #[]) ∧ WrIs w' n0 S wb v1 (setTo L1 i L1.length) ∧ Wx wb W v1 w' v1) := fun W v1 L1 pb ab i h1 h2 hw hl => lead1_any n0 S wb pb ab v1 L1 i W hw hl h1 h2
  have hres2 := hid (hres.trans (cmpF_w L.length (cmpL xt) (cmpL xe) rfl))
  simp only [St.a] at hres2
  clear hres
  generalize cmpS (.mk 11 xr xv xa xb xt xe) L.length = R at *
  generalize cmpL xt (L.length + 1) = A at *
  go_enter Tryz.func53, Tryz.ntmps53
  go_wp2_with (first
    | (go_at_call 84
       rw [hWx.out]
       with_reducible refine hcA.out.mono ?_
       rintro e w1 ⟨pb, ab, v1, rfl, hW1, hX1, hL1⟩
       have HW1 := hid hW1
       have HX1 := hid (HX0.out.trans hX1)
       have HL1 := hid hL1
       have d11 : w1.cell? ⟨w.heap.size, 11, none⟩ = some (.slice ta xt.length tc) := (hX1.cell hxb hbw hbo).trans c11
       have z1 : w.heap.size < w1.heap.size := Nat.lt_of_lt_of_le hxb hX1.size
       have B1 := hid (hX1.low HWr.out)
       clear hW1 hX1 hL1)
    | (go_at_call 26
       with_reducible refine (hcT.out w1 v1 (L ++ [(⟨12, 0, 0, xa, exZ, 0⟩ : Ins)]) ?_ HW1.out B1.out).mono ?_
       (focus simp)
       rintro e w2 ⟨rfl, v2, hW2, hX2⟩
       have HW2 := hid hW2
       have HX2 := hid (HX1.out.trans hX2)
       have HL2 := hid (HL1.out.keep hX2)
       obtain ⟨a2, c2, hv2⟩ := hW2.row.sl
       subst hv2
       have g0 := hW2.c0
       have gf := hW2.fr
       have hlo2 : n0 ≤ w2.heap.size := by have := hW2.lo; have := hW2.hi; omega
       have zw2 := hW2.hi
       have hbS : ∀ b, S b → b < w2.heap.size := fun b hb => by have := hS b hb; omega
       have hE2 : Hid (InsE w2 S (⟨13, 0, 0, exZ, exZ, (L.length : Int)⟩, ⟨.int .i64 0, .int .i64 0, .int .u8 0, .slice none 0 0, .int .i64 0, .int .i64 0, .int .u8 0, .slice none 0 0⟩)) := ⟨exZ_in _ _, exZ_in _ _⟩
       have hrow : Hid (InsO w2 n0 S (.slice a2 (L.length + (A.length + 1)) c2) (L ++ [(⟨12, 0, 0, xa, exZ, 0⟩ : Ins)] ++ A)) := by
         have h := hW2.row
         rw [show (L ++ [(⟨12, 0, 0, xa, exZ, 0⟩ : Ins)] ++ A).length = L.length + (A.length + 1) by simp] at h
         exact h
       clear hW2 hX2)
    | (at_builtin
       refine list_insO (base := n0) (S := S) (.tmp 24) (.tmp 27) (.slice a2 (L.length + (A.length + 1)) c2) (L ++ [(⟨12, 0, 0, xa, exZ, 0⟩ : Ins)] ++ A) [(⟨13, 0, 0, exZ, exZ, (L.length : Int)⟩ : Ins)] ?_ ?_ ?_ ?_ ?_ ?_ ?_ ?_ ?_
       (focus rfl); (focus rfl); (focus rfl)
       (focus exact kept_alloc hrow.out hbS _)
       (focus exact InsSrc.lit hE2.out hbS)
       (focus (simp <;> omega)); (focus (simp <;> omega)); (focus exact hS)
       intro a3 c3' w3 hO3 hg3 hat3
       generalize hN3 : (L ++ [(⟨12, 0, 0, xa, exZ, 0⟩ : Ins)] ++ A).length + [(⟨13, 0, 0, exZ, exZ, (L.length : Int)⟩ : Ins)].length = N3 at *
       clear hN3
       (have hp := wr_app (wb := wb) (v := .slice a2 (L ++ [(⟨12, 0, 0, xa, exZ, 0⟩ : Ins)] ++ A).length c2) HW2.out hO3 (by rw [show (L ++ [(⟨12, 0, 0, xa, exZ, 0⟩ : Ins)] ++ A).length = L.length + (A.length + 1) by simp]; exact hg3) (by rw [show (Value.slice a2 (L ++ [(⟨12, 0, 0, xa, exZ, 0⟩ : Ins)] ++ A).length c2).ownBlock = (Value.slice a2 (L.length + (A.length + 1)) c2).ownBlock by rw [show (L ++ [(⟨12, 0, 0, xa, exZ, 0⟩ : Ins)] ++ A).length = L.length + (A.length + 1) by simp]]; exact hat3))
       obtain ⟨hp1, g3, gf3⟩ := hp
       have HW3 := hid hp1.1
       have HX3 := hid (HX2.out.trans hp1.2)
       have HL3 := hid (HL2.out.keep hp1.2)
       clear hO3 hg3 hat3 hp1)
    | (go_at_call 103
       (with_reducible refine (hc1.out _ _ (L ++ [(⟨12, 0, 0, xa, exZ, 0⟩ : Ins)] ++ A ++ [(⟨13, 0, 0, exZ, exZ, (L.length : Int)⟩ : Ins)]) pb ab L.length ?_ ?_ HW3.out HL3.out).mono ?_)
       (focus (simp only [List.length_append, List.length_cons, List.length_nil]; omega))
       (focus (simp only [List.length_append, List.length_cons, List.length_nil]; omega))
       rintro e w4 ⟨rfl, hW4, hX4⟩)
    | fail)
  go_end0
  refine ⟨rfl, _, ?_, HX3.out.trans hX4⟩
  have hR : L ++ R = setTo (L ++ [(⟨12, 0, 0, xa, exZ, 0⟩ : Ins)] ++ A ++ [(⟨13, 0, 0, exZ, exZ, (L.length : Int)⟩ : Ins)]) L.length (L ++ [(⟨12, 0, 0, xa, exZ, 0⟩ : Ins)] ++ A ++ [(⟨13, 0, 0, exZ, exZ, (L.length : Int)⟩ : Ins)]).length := by
    rw [hres2.out, show L ++ [(⟨12, 0, 0, xa, exZ, 0⟩ : Ins)] ++ A ++ [(⟨13, 0, 0, exZ, exZ, (L.length : Int)⟩ : Ins)] = L ++ (⟨12, 0, 0, xa, exZ, 0⟩ : Ins) :: (A ++ [(⟨13, 0, 0, exZ, exZ, (L.length : Int)⟩ : Ins)]) by simp, setTo_app]
    simp [brI, juI]
    omega
  rw [hR]
  exact hW4

set_option maxRecDepth 100000 in
set_option maxHeartbeats 16000000 in
theorem pblk_step (n0 : Nat) (S : Nat → Prop) (n : Nat) (hch : PCho n0 S n) (hlp : PLoo n0 S n) : PBlk n0 S n := by
  intro l a cap wb v L w hn hlim hin hWr
  have hcap := hin.le
  have hmx := hin.mx
  unfold maxLen at hmx
  have Hin := hid hin
  have Hch := hid hch
  have Hlp := hid hlp
  have hS := hWr.sb
  have hlo := hWr.lo
  have hhi := hWr.hi
  have HWr := hid hWr
  clear hin hch hlp hWr
  go_enter Tryz.func26, Tryz.ntmps26
  go_wp2_with fail
  go_loopw [8] (fun i wr => ∃ (k : Nat) (vk : Value), k ≤ l.length ∧ i = .int .i64 k ∧ WrIs wr n0 S wb vk (L ++ cmpL (l.take k) L.length) ∧ Wx wb w v wr vk) (fun i _ => l.length - (intOf i).toNat)
  case atStart => exact ⟨0, v, Nat.zero_le _, rfl, by simpa [cmpL] using HWr.out, Wx.refl⟩
  case round =>
    obtain ⟨k, vk, hk, rfl, hI, hX⟩ := hrel
    by_cases hlt : k < l.length
    · obtain ⟨b, off, u0, u1, u2, u3, v0, v1, v2, v3, ta, ea, tc, ec, rfl, hb, ⟨e0, e1, e2⟩, ⟨e3, e4, e5, e6⟩, ⟨e7, e8, e9, e10⟩, ⟨e11, e12⟩, ⟨ha, hbx, -, -⟩, hst⟩ := Hin.out.at_ k hlt
      have hlow := hX.low HWr.out
      have hbl := hS b hb
      have k0 : (0 : Int) ≤ k := by omega
      have k1 : (k : Int) < l.length := by omega
      have g0 := hX.size
      have g3 : b < wr.heap.size := by omega
      have hke : ∀ j, wr.cell? ⟨b, j, none⟩ = w.cell? ⟨b, j, none⟩ := fun j => hlow.cell (p := ⟨b, j, none⟩) hbl
      rw [← hke] at e0 e1 e2 e3 e4 e5 e6 e7 e8 e9 e10 e11 e12
      have Hnext := hid (cmpL_take l L.length k hlt)
      have hlen := cmpL_len (l.take k) L.length
      have hc1 := cntL_take l k hlt
      have hc2 := cntL_le l (k + 1)
      have Hst := hid (hst.at0 hlow hS)
      have Ha := hid (ha.at0 hlow hS)
      have Hb := hid (hbx.at0 hlow hS)
      obtain ⟨o0, o1, o2, o3⟩ := ha.ones
      obtain ⟨o4, o5, o6, o7⟩ := hbx.ones
      have s0 := fun ad W m => run_store (P := Tryz.prog) W ad u0 m o0
      have s1 := fun ad W m => run_store (P := Tryz.prog) W ad u1 m o1
      have s2 := fun ad W m => run_store (P := Tryz.prog) W ad u2 m o2
      have s3 := fun ad W m => run_store (P := Tryz.prog) W ad u3 m o3
      have s4 := fun ad W m => run_store (P := Tryz.prog) W ad v0 m o4
      have s5 := fun ad W m => run_store (P := Tryz.prog) W ad v1 m o5
      have s6 := fun ad W m => run_store (P := Tryz.prog) W ad v2 m o6
      have s7 := fun ad W m => run_store (P := Tryz.prog) W ad v3 m o7
      clear hst ha hbx o0 o1 o2 o3 o4 o5 o6 o7 hke
      have hLk : (L ++ cmpL (l.take k) L.length).length = L.length + (cmpL (l.take k) L.length).length := List.length_append
      rw [← hLk] at Hnext
      have Hnext2 : Hid (L ++ cmpL (l.take (k + 1)) L.length = L ++ cmpL (l.take k) L.length ++ cmpS l[k] (L ++ cmpL (l.take k) L.length).length) := by
        show _ = _
        rw [Hnext.out, List.append_assoc]
      have hcm : (L ++ cmpL (l.take k) L.length).length + 2 * cntS l[k] ≤ 40000 := by omega
      have hcn : cntS l[k] ≤ n := by omega
      clear Hnext hLk hlen hc1 hc2
      generalize hLk : L ++ cmpL (l.take k) L.length = Lk at *
      clear hLk
      have cmpOx : l[k].kind ≠ 10 → l[k].kind ≠ 11 → cmpS l[k] Lk.length = [⟨l[k].kind, l[k].reg, l[k].var, l[k].a, l[k].b, 0⟩] := fun h1 h2 => (cmpS_eq _ _).trans (cmpF_o _ _ _ h1 h2)
      have CmpO := hid cmpOx
      clear cmpOx
      have hpos := cnt_pos l[k]
      generalize hx : l[k] = x at *
      clear hx
      have HI := hid hI
      have HX := hid hX
      have ww0 := hI.hi
      clear hI hX
      obtain ⟨xk, xr, xv, xa, xb, xt, xe⟩ := x
      simp only [St.kind, St.reg, St.var, St.t, St.e, St.a, St.b] at e0 e1 e2 e11 e12 Ha Hb Hst CmpO
      by_cases k10 : xk = 10
      · subst k10
        go_wp2_with fail
        refine (Hch.out (.mk 10 xr xv xa xb xt xe) [.int .i64 10, .int .i64 xr, .int .i64 xv, u0, u1, u2, u3, v0, v1, v2, v3, .slice ta xt.length tc, .slice ea xe.length ec] wb vk Lk _ rfl hcn hcm (Hst.out.at0 ((Below.refl n0 wr).alloc (by omega) _) hS) (HI.out.alloc _)).mono ?_
        rintro e w1 ⟨rfl, vn, hW1, hX1⟩
        have HW1 := hid hW1
        have HX1 := hid (HX.out.trans hX1.alloc)
        clear hW1 hX1
        go_wp2_with fail
        go_roundw
        case rel => exact ⟨k + 1, vn, by omega, by simp, by rw [Hnext2.out]; exact HW1.out, HX1.out⟩
        case measure => simp [intOf]; omega
      by_cases k11 : xk = 11
      · subst k11
        go_wp2_with fail
        refine (Hlp.out (.mk 11 xr xv xa xb xt xe) [.int .i64 11, .int .i64 xr, .int .i64 xv, u0, u1, u2, u3, v0, v1, v2, v3, .slice ta xt.length tc, .slice ea xe.length ec] wb vk Lk _ rfl hcn hcm (Hst.out.at0 ((Below.refl n0 wr).alloc (by omega) _) hS) (HI.out.alloc _)).mono ?_
        rintro e w1 ⟨rfl, vn, hW1, hX1⟩
        have HW1 := hid hW1
        have HX1 := hid (HX.out.trans hX1.alloc)
        clear hW1 hX1
        go_wp2_with fail
        go_roundw
        case rel => exact ⟨k + 1, vn, by omega, by simp, by rw [Hnext2.out]; exact HW1.out, HX1.out⟩
        case measure => simp [intOf]; omega
      have cmpO := hid (CmpO.out k10 k11)
      have hn2 : Hid (L ++ cmpL (l.take (k + 1)) L.length = Lk ++ [⟨xk, xr, xv, xa, xb, 0⟩]) := by show _ = _; rw [Hnext2.out, cmpO.out]
      clear Hnext2 CmpO cmpO
      have e10 : (xk == 10) = false := by simpa using k10
      have e11 : (xk == 11) = false := by simpa using k11
      clear k10 k11
      go_wp2_with fail
      generalize hV : World.alloc wr _ = V at *
      have hBV : Below wr.heap.size wr V := by subst hV; exact (Below.refl _ _).alloc (Nat.le_refl _) _
      have zV : V.heap.size = wr.heap.size + 1 := by subst hV; simp
      have x0 : V.cell? ⟨wr.heap.size, 0, none⟩ = some (.int .i64 xk) := by subst hV; go_simp
      have x1 : V.cell? ⟨wr.heap.size, 1, none⟩ = some (.int .i64 xr) := by subst hV; go_simp
      have x2 : V.cell? ⟨wr.heap.size, 2, none⟩ = some (.int .i64 xv) := by subst hV; go_simp
      have x3 : V.cell? ⟨wr.heap.size, 3, none⟩ = some u0 := by subst hV; go_simp
      have x4 : V.cell? ⟨wr.heap.size, 4, none⟩ = some u1 := by subst hV; go_simp
      have x5 : V.cell? ⟨wr.heap.size, 5, none⟩ = some u2 := by subst hV; go_simp
      have x6 : V.cell? ⟨wr.heap.size, 6, none⟩ = some u3 := by subst hV; go_simp
      have x7 : V.cell? ⟨wr.heap.size, 7, none⟩ = some v0 := by subst hV; go_simp
      have x8 : V.cell? ⟨wr.heap.size, 8, none⟩ = some v1 := by subst hV; go_simp
      have x9 : V.cell? ⟨wr.heap.size, 9, none⟩ = some v2 := by subst hV; go_simp
      have x10 : V.cell? ⟨wr.heap.size, 10, none⟩ = some v3 := by subst hV; go_simp
      clear hV e0 e1 e2 e3 e4 e5 e6 e7 e8 e9 e10 e11 e12 s0 s1 s2 s3 s4 s5 s6 s7 Hst
      have HXV := hid (HX.out.trans (Wx.of_below hBV))
      have HIV := hid (HI.out.below hBV)
      have HR := hid ((HI.out.below hBV).below (Below.refl _ _).drew)
      have hE : Hid (InsE V.drew S (⟨xk, xr, xv, xa, xb, 0⟩, ⟨u0, u1, u2, u3, v0, v1, v2, v3⟩)) := ⟨Ha.out.at0 ((hBV.mono (by omega)).drew) hS, Hb.out.at0 ((hBV.mono (by omega)).drew) hS⟩
      have hbS : ∀ b, S b → b < V.drew.heap.size := fun b hb => by have := hS b hb; show b < V.heap.size; omega
      have own0 := HI.out.own
      have hwx : wb ≠ wr.heap.size := by omega
      generalize hxb : wr.heap.size = xb' at *
      have HQ : Hid (∀ W, Below V.heap.size V W ∨ V.drew.grownBy W vk.ownBlock → ∀ j, W.cell? ⟨xb', j, none⟩ = V.cell? ⟨xb', j, none⟩) := by
        intro W h j
        have q0 : W.heap[xb']? = V.heap[xb']? := by
          rcases h with h | h
          · exact h.block _ (by omega)
          · exact h.block _ (by show xb' < V.heap.size; omega) (fun e => by have := (own0 _ e.symm).2; omega)
        exact World.cell?_of_block (a := ⟨xb', j, none⟩) q0
      have w0 := HIV.out.c0
      have wf := HIV.out.fr
      have wz : wb < V.heap.size := by omega
      have zx : xb' < V.heap.size := by omega
      clear own0 hBV zV
      refine wp_region_held_drew (S := fun W => ∀ j, W.cell? ⟨xb', j, none⟩ = V.cell? ⟨xb', j, none⟩) (by kernel_rfl) (HQ.out _ (.inl (Below.refl _ _).drew)) (fun hHeld => ?_)
      refine takeL (i := 0) (v := ?_) rfl (by kernel_rfl) (by kernel_rfl) (by kernel_rfl) (fun _ _ _ h => h) (Or.inl ⟨by rfl, ?_⟩) (by assumption) ?_
      rotate_left
      focus (intro w hSw; go_simp; try with_reducible rfl)
      simp only [Act.put, List.setIfInBounds_toArray, List.set_cons_zero, List.set_cons_succ]
      refine takeL (i := 1) (v := ?_) rfl (by kernel_rfl) (by kernel_rfl) (by kernel_rfl) (fun _ _ _ h => h) (Or.inl ⟨by rfl, ?_⟩) (by assumption) ?_
      rotate_left
      focus (intro w hSw; go_simp; try with_reducible rfl)
      simp only [Act.put, List.setIfInBounds_toArray, List.set_cons_zero, List.set_cons_succ]
      refine takeL (i := 2) (v := ?_) rfl (by kernel_rfl) (by kernel_rfl) (by kernel_rfl) (fun _ _ _ h => h) (Or.inl ⟨by rfl, ?_⟩) (by assumption) ?_
      rotate_left
      focus (intro w hSw; go_simp; try with_reducible rfl)
      simp only [Act.put, List.setIfInBounds_toArray, List.set_cons_zero, List.set_cons_succ]
      refine takeL (i := 3) (v := ?_) rfl (by kernel_rfl) (by kernel_rfl) (by kernel_rfl) (fun _ _ _ h => h) (Or.inl ⟨by rfl, ?_⟩) (by assumption) ?_
      rotate_left
      focus (intro w hSw; go_simp; try with_reducible rfl)
      simp only [Act.put, List.setIfInBounds_toArray, List.set_cons_zero, List.set_cons_succ]
      refine takeL (i := 5) (v := ?_) rfl (by kernel_rfl) (by kernel_rfl) (by kernel_rfl) (fun _ _ _ h => h) (Or.inl ⟨by rfl, ?_⟩) (by assumption) ?_
      rotate_left
      focus (intro w hSw; go_simp; try with_reducible rfl)
      simp only [Act.put, List.setIfInBounds_toArray, List.set_cons_zero, List.set_cons_succ]
      refine takeL (i := 6) (v := ?_) rfl (by kernel_rfl) (by kernel_rfl) (by kernel_rfl) (fun _ _ _ h => h) (Or.inl ⟨by rfl, ?_⟩) (by assumption) ?_
      rotate_left
      focus (intro w hSw; go_simp; try with_reducible rfl)
      simp only [Act.put, List.setIfInBounds_toArray, List.set_cons_zero, List.set_cons_succ]
      refine takeL (i := 7) (v := ?_) rfl (by kernel_rfl) (by kernel_rfl) (by kernel_rfl) (fun _ _ _ h => h) (Or.inl ⟨by rfl, ?_⟩) (by assumption) ?_
      rotate_left
      focus (intro w hSw; go_simp; try with_reducible rfl)
      simp only [Act.put, List.setIfInBounds_toArray, List.set_cons_zero, List.set_cons_succ]
      refine takeL (i := 8) (v := ?_) rfl (by kernel_rfl) (by kernel_rfl) (by kernel_rfl) (fun _ _ _ h => h) (Or.inl ⟨by rfl, ?_⟩) (by assumption) ?_
      rotate_left
      focus (intro w hSw; go_simp; try with_reducible rfl)
      simp only [Act.put, List.setIfInBounds_toArray, List.set_cons_zero, List.set_cons_succ]
      refine takeL (i := 9) (v := ?_) rfl (by kernel_rfl) (by kernel_rfl) (by kernel_rfl) (fun _ _ _ h => h) (Or.inl ⟨by rfl, ?_⟩) (by assumption) ?_
      rotate_left
      focus (intro w hSw; go_simp; try with_reducible rfl)
      simp only [Act.put, List.setIfInBounds_toArray, List.set_cons_zero, List.set_cons_succ]
      refine takeL (i := 10) (v := ?_) rfl (by kernel_rfl) (by kernel_rfl) (by kernel_rfl) (fun _ _ _ h => h) (Or.inl ⟨by rfl, ?_⟩) (by assumption) ?_
      rotate_left
      focus (intro w hSw; go_simp; try with_reducible rfl)
      simp only [Act.put, List.setIfInBounds_toArray, List.set_cons_zero, List.set_cons_succ]
      refine takeL (i := 11) (v := ?_) rfl (by kernel_rfl) (by kernel_rfl) (by kernel_rfl) (fun _ _ _ h => h) (Or.inl ⟨by rfl, ?_⟩) (by assumption) ?_
      rotate_left
      focus (intro w hSw; go_simp; try with_reducible rfl)
      simp only [Act.put, List.setIfInBounds_toArray, List.set_cons_zero, List.set_cons_succ]
      refine takeL (i := 12) (v := ?_) rfl (by kernel_rfl) (by kernel_rfl) (by kernel_rfl) (fun _ _ _ h => h) (Or.inl ⟨by rfl, ?_⟩) (by assumption) ?_
      rotate_left
      focus (intro w hSw; go_simp; try with_reducible rfl)
      simp only [Act.put, List.setIfInBounds_toArray, List.set_cons_zero, List.set_cons_succ]
      refine takeL (i := 13) (v := ?_) rfl (by kernel_rfl) (by kernel_rfl) (by kernel_rfl) (fun _ _ _ h => h) (Or.inl ⟨by rfl, ?_⟩) (by assumption) ?_
      rotate_left
      focus (intro w hSw; go_simp; try with_reducible rfl)
      simp only [Act.put, List.setIfInBounds_toArray, List.set_cons_zero, List.set_cons_succ]
      refine takeL (i := 14) (v := ?_) rfl (by kernel_rfl) (by kernel_rfl) (by kernel_rfl) (fun _ _ _ h => h) (Or.inl ⟨by rfl, ?_⟩) (by assumption) ?_
      rotate_left
      focus (intro w hSw; go_simp; try with_reducible rfl)
      simp only [Act.put, List.setIfInBounds_toArray, List.set_cons_zero, List.set_cons_succ]
      refine takeL (i := 15) (v := ?_) rfl (by kernel_rfl) (by kernel_rfl) (by kernel_rfl) (fun _ _ _ h => h) (Or.inl ⟨by rfl, ?_⟩) (by assumption) ?_
      rotate_left
      focus (intro w hSw; go_simp; try with_reducible rfl)
      simp only [Act.put, List.setIfInBounds_toArray, List.set_cons_zero, List.set_cons_succ]
      refine callL2 (i := 4) (j := 16) (by kernel_rfl) rfl rfl (fun K hK => ?_) (fun K hK => ?_)
      · go_simp
        refine hK.out _ _ (HQ.out _ (.inl (Below.refl _ _).drew)) (fun hHeld => ?_)
        clear hK
        refine callL (i := 16) (by kernel_rfl) rfl (fun K hK => ?_)
        go_simp
        refine hK.out _ _ (HQ.out _ (.inl ((Below.refl _ _).drew.alloc (Nat.le_refl _) _))) (fun hHeld => ?_)
        clear hK
        refine callL (i := 17) (by kernel_rfl) rfl (fun K hK => ?_)
        refine step_insO (base := n0) (S := S) (.tmp 18) (.tmp 30) vk Lk [⟨xk, xr, xv, xa, xb, 0⟩] ?_ ?_ ?_ ?_ ?_ ?_ ?_ ?_ ?_
        · rfl
        · rfl
        · rfl
        · exact kept_alloc HR.out.row hbS _
        · exact InsSrc.lit hE.out hbS
        · simp; omega
        · simp; omega
        · exact hS
        intro A3 c3' W4 hO4 hg4 hat4
        generalize hN3 : Lk.length + [(⟨xk, xr, xv, xa, xb, 0⟩ : Ins)].length = N3 at *
        clear hN3
        have hp := wr_app HR.out hO4 hg4 hat4
        obtain ⟨hp1, c4, f4⟩ := hp
        have HW4 := hid hp1.1
        have HX4 := hid hp1.2
        have hq4 : ∀ j, W4.cell? ⟨xb', j, none⟩ = V.cell? ⟨xb', j, none⟩ := HQ.out W4 (.inr ⟨hg4.os, hg4.tape, hg4.output, by have := hg4.size; simp at this; exact Nat.le_trans (Nat.le_succ _) this, fun k hk hr => have hk' : k < V.heap.size := hk; (hg4.block k (by simp; omega) hr).trans (Below.heap_alloc _ _ _ hk)⟩)
        clear hO4 hg4 hat4 hp1
        refine hK.out _ _ hq4 (fun hHeld => ?_)
        clear hK
        simp only [Act.put, List.setIfInBounds_toArray, List.set_cons_zero, List.set_cons_succ]
        refine takeL (i := 18) (v := ?_) rfl (by kernel_rfl) (by kernel_rfl) (by kernel_rfl) (fun _ _ _ h => h) (Or.inl ⟨by rfl, ?_⟩) (by assumption) ?_
        rotate_left
        focus (intro w hSw; go_simp; try with_reducible rfl)
        simp only [Act.put, List.setIfInBounds_toArray, List.set_cons_zero, List.set_cons_succ]
        refine takeL (i := 19) (v := ?_) rfl (by kernel_rfl) (by kernel_rfl) (by kernel_rfl) (fun _ _ _ h => h) (Or.inl ⟨by rfl, ?_⟩) (by assumption) ?_
        rotate_left
        focus (intro w hSw; go_simp; try with_reducible rfl)
        simp only [Act.put, List.setIfInBounds_toArray, List.set_cons_zero, List.set_cons_succ]
        refine callL (i := 20) (by kernel_rfl) rfl (fun K hK => ?_)
        go_simp
        refine hK.out _ _ (fun j => by rw [World.cell?_setCell_other _ _ _ _ (by intro e; injection e; omega)]; exact hq4 j) (fun hHeld => ?_)
        clear hK
        refine wpAnyH_done (by kernel_rfl) ?_ _
        go_wp2_with fail
        go_roundw
        case rel => exact ⟨k + 1, _, by omega, by simp, by rw [hn2.out]; exact HW4.out, HXV.out.trans (Wx.trans (Wx.of_below (Below.refl _ _).drew) HX4.out)⟩
        case measure => simp [intOf]; omega
      · go_simp
        refine hK.out _ _ (HQ.out _ (.inl ((Below.refl _ _).drew.alloc (Nat.le_refl _) _))) (fun hHeld => ?_)
        clear hK
        refine callL (i := 4) (by kernel_rfl) rfl (fun K hK => ?_)
        go_simp
        refine hK.out _ _ (HQ.out _ (.inl ((Below.refl _ _).drew.alloc (Nat.le_refl _) _))) (fun hHeld => ?_)
        clear hK
        refine callL (i := 17) (by kernel_rfl) rfl (fun K hK => ?_)
        refine step_insO (base := n0) (S := S) (.tmp 18) (.tmp 30) vk Lk [⟨xk, xr, xv, xa, xb, 0⟩] ?_ ?_ ?_ ?_ ?_ ?_ ?_ ?_ ?_
        · rfl
        · rfl
        · rfl
        · exact kept_alloc HR.out.row hbS _
        · exact InsSrc.lit hE.out hbS
        · simp; omega
        · simp; omega
        · exact hS
        intro A3 c3' W4 hO4 hg4 hat4
        generalize hN3 : Lk.length + [(⟨xk, xr, xv, xa, xb, 0⟩ : Ins)].length = N3 at *
        clear hN3
        have hp := wr_app HR.out hO4 hg4 hat4
        obtain ⟨hp1, c4, f4⟩ := hp
        have HW4 := hid hp1.1
        have HX4 := hid hp1.2
        have hq4 : ∀ j, W4.cell? ⟨xb', j, none⟩ = V.cell? ⟨xb', j, none⟩ := HQ.out W4 (.inr ⟨hg4.os, hg4.tape, hg4.output, by have := hg4.size; simp at this; exact Nat.le_trans (Nat.le_succ _) this, fun k hk hr => have hk' : k < V.heap.size := hk; (hg4.block k (by simp; omega) hr).trans (Below.heap_alloc _ _ _ hk)⟩)
        clear hO4 hg4 hat4 hp1
        refine hK.out _ _ hq4 (fun hHeld => ?_)
        clear hK
        simp only [Act.put, List.setIfInBounds_toArray, List.set_cons_zero, List.set_cons_succ]
        refine takeL (i := 18) (v := ?_) rfl (by kernel_rfl) (by kernel_rfl) (by kernel_rfl) (fun _ _ _ h => h) (Or.inl ⟨by rfl, ?_⟩) (by assumption) ?_
        rotate_left
        focus (intro w hSw; go_simp; try with_reducible rfl)
        simp only [Act.put, List.setIfInBounds_toArray, List.set_cons_zero, List.set_cons_succ]
        refine takeL (i := 19) (v := ?_) rfl (by kernel_rfl) (by kernel_rfl) (by kernel_rfl) (fun _ _ _ h => h) (Or.inl ⟨by rfl, ?_⟩) (by assumption) ?_
        rotate_left
        focus (intro w hSw; go_simp; try with_reducible rfl)
        simp only [Act.put, List.setIfInBounds_toArray, List.set_cons_zero, List.set_cons_succ]
        refine callL (i := 20) (by kernel_rfl) rfl (fun K hK => ?_)
        go_simp
        refine hK.out _ _ (fun j => by rw [World.cell?_setCell_other _ _ _ _ (by intro e; injection e; omega)]; exact hq4 j) (fun hHeld => ?_)
        clear hK
        refine wpAnyH_done (by kernel_rfl) ?_ _
        go_wp2_with fail
        go_roundw
        case rel => exact ⟨k + 1, _, by omega, by simp, by rw [hn2.out]; exact HW4.out, HXV.out.trans (Wx.trans (Wx.of_below (Below.refl _ _).drew) HX4.out)⟩
        case measure => simp [intOf]; omega
    · obtain rfl : k = l.length := by omega
      rw [List.take_length] at hI
      have HI := hid hI
      clear hI
      generalize cmpL l L.length = M at *
      go_wp2_with fail
      go_end0
      exact ⟨rfl, vk, HI.out, hX⟩

theorem pall (n0 : Nat) (S : Nat → Prop) : ∀ n, PBlk n0 S n := by
  intro n
  induction n using Nat.strongRecOn with
  | _ n ih => exact pblk_step n0 S n (pcho_step n0 S n ih) (ploo_step n0 S n ih)
/-- The program's block. -/
theorem pblk_any (n0 : Nat) (S : Nat → Prop) (l : List St) (a : Option Addr) (cap wb : Nat) (v : Value) (L : List Ins) (w : World) (hl : L.length + 2 * cntL l ≤ 40000) (hin : StRow w S a l.length cap l) (hW : WrIs w n0 S wb v L) :
    Calls Tryz.prog 26 #[.pointer (some ⟨wb, 0, none⟩), .slice a l.length cap] w (WPost n0 S wb v (L ++ cmpL l L.length) w) := pall n0 S _ l a cap wb v L w (Nat.le_refl _) hl hin hW
end Go.Proofs.YtcgpobeidlimkaaGreatDoor
