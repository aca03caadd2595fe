/- The program's Right: the closure and the parts. -/
import Derived.Test.YtogopcejapklgaaGreatDoorLpB
namespace Go.Proofs.YtogopcejapklgaaGreatDoor
open Go.RowKit

/-- The checker lies in block C: how many formulas there are, and the kinds. -/
structure CBox (w : World) (C mb : Nat) (c : Int) : Prop where
  hC : w.heap[C]? = some (.cells #[.int .i64 c, .map (some mb)] 73 (0, 0))
  mp : MapB w mb frmT
  lt : mb < C
namespace CBox
variable {w w' : World} {C mb : Nat} {c : Int}
theorem sz (h : CBox w C mb c) : C < w.heap.size := (Array.getElem?_eq_some_iff.1 h.hC).1
theorem cells (h : CBox w C mb c) : w.cell? ⟨C, 0, none⟩ = some (.int .i64 c) ∧ w.cell? ⟨C, 1, none⟩ = some (.map (some mb)) ∧ ∀ o, w.frozen? ⟨C, o, none⟩ = false := by
  refine ⟨?_, ?_, fun o => unfrozen h.hC⟩
  · rw [cell_of_heap h.hC]; rfl
  · rw [cell_of_heap h.hC]; rfl
theorem grown (h : CBox w C mb c) {r : Option Nat} (hg : w.grownBy w' r) (hr : ∀ k, r = some k → C < k) : CBox w' C mb c :=
  ⟨(hg.block C h.sz fun e => by have := hr C e.symm; omega).trans h.hC, h.mp.grown hg fun e => by have := hr mb e; have := h.lt; omega, h.lt⟩
theorem more (h : CBox w C mb c) (c' : Int) : CBox (w.setCell ⟨C, 0, none⟩ (.int .i64 c')) C mb c' :=
  ⟨by simp [World.setCell, Array.getElem?_modify, h.hC], h.mp.block (Below.heap_setCell _ _ _ _ (by have := h.lt; simp; omega)), h.lt⟩
end CBox
/-- The contract of right, within so much depth. -/
def RtAt (d : Nat) : Prop := ∀ (C mb : Nat) (c : Int) (f : Fm) (a : Option Addr) (cap : Nat) (w : World), okD d f → 0 ≤ c → c + f.size ≤ 200 → CBox w C mb c → FmIn w (fun b => b < C) (fmC f.kind f.prop a f.kids.length cap) f →
  Calls Tryz.prog 36 #[.pointer (some ⟨C, 0, none⟩), .agg #[.int .i64 f.kind, .int .i64 f.prop.k, .int .i64 f.prop.t, .int .i64 f.prop.a, .int .i64 f.prop.n, .slice a f.kids.length cap], .int .i64 d] w
    fun e w' => e = .returned (.bool true) ∧ CBox w' C mb (c + f.size) ∧ w.grownBy w' (some C)

set_option maxHeartbeats 4000000 in
theorem odd_any (d : Nat) (hd : d ≤ 20) (hR : RtAt d) (C mb bc bd : Nat) (c : Int) (f : Fm) (a : Option Addr) (cap : Nat) (w : World) (hf : okD d f) (h0 : 0 ≤ c) (hc : c + f.size ≤ 200) (hC : CBox w C mb c) (hin : FmIn w (fun b => b < C) (fmC f.kind f.prop a f.kids.length cap) f)
    (h1 : w.cell? ⟨bc, 0, none⟩ = some (.pointer (some ⟨C, 0, none⟩))) (h2 : w.cell? ⟨bd, 0, none⟩ = some (.int .i64 ((d : Int) + 1))) (hb1 : bc < w.heap.size) (hb2 : bd < w.heap.size) :
    Calls Tryz.prog 52 #[.agg #[.int .i64 f.kind, .int .i64 f.prop.k, .int .i64 f.prop.t, .int .i64 f.prop.a, .int .i64 f.prop.n, .slice a f.kids.length cap], .pointer (some ⟨bc, 0, none⟩), .pointer (some ⟨bd, 0, none⟩)] w
      fun e w' => e = .returned (.bool false) ∧ CBox w' C mb (c + f.size) ∧ w.grownBy w' (some C) := by
  have HR := hid (fun W (h1 : CBox W C mb c) h2 => hR C mb c f a cap W hf h0 hc h1 h2)
  have HC := hid hC
  have Hin := hid hin
  have hw : IntKind.i64.wrap ((d : Int) + 1 - 1) = (d : Int) := by rw [show (d : Int) + 1 - 1 = d by omega]; exact IntWalk.i64_in _ (by omega)
  generalize (f.size : Int) = sz at *
  generalize f.kind = kd at *
  generalize f.prop.k = pk at *
  generalize f.prop.t = pt at *
  generalize f.prop.a = pa at *
  generalize f.prop.n = pn at *
  generalize f.kids.length = kl at *
  clear hR hC hin hf
  go_enter Tryz.func52, Tryz.ntmps52
  go_upto_region 1 with fail
  generalize hW : World.alloc w _ = W1
  have hC1 : Hid (CBox W1 C mb c) := by subst hW; exact HC.out.grown (World.grownBy_alloc w _ none) (fun k e => by cases e)
  have q1 : W1.cell? ⟨bc, 0, none⟩ = some (.pointer (some ⟨C, 0, none⟩)) := by subst hW; rw [World.cell?_alloc_lt _ _ _ hb1]; exact h1
  have q2 : W1.cell? ⟨bd, 0, none⟩ = some (.int .i64 ((d : Int) + 1)) := by subst hW; rw [World.cell?_alloc_lt _ _ _ hb2]; exact h2
  have hh : W1.heap[w.heap.size]? = some (.cells #[.int .i64 kd, .int .i64 pk, .int .i64 pt, .int .i64 pa, .int .i64 pn, .slice a kl cap] 30 (0, 0)) := by subst hW; exact alloc_at rfl
  have hG : Hid (w.grownBy W1 none) := by subst hW; exact World.grownBy_alloc w _ none
  have hin1 : Hid (∀ {cs : List Value}, FmIn w (fun b => b < C) cs f → FmIn W1 (fun b => b < C) cs f) := fun h => by
    have := HC.out.sz
    subst hW
    exact h.keep fun b o hb => World.cell?_alloc_lt _ _ _ (by have hb' : b < C := hb; show b < w.heap.size; omega)
  have z0 := cell_of_heap (j := 0) hh
  have z1 := cell_of_heap (j := 1) hh
  have z2 := cell_of_heap (j := 2) hh
  have z3 := cell_of_heap (j := 3) hh
  have z4 := cell_of_heap (j := 4) hh
  have z5 := cell_of_heap (j := 5) hh
  simp at z0 z1 z2 z3 z4 z5
  have hcall := hid (HR.out W1 hC1.out (hin1.out Hin.out))
  clear hW hh h1 h2 HR hin1 Hin
  go_wp2_with (first
    | (go_at_call 36
       with_reducible refine hcall.out.mono ?_
       rintro e w2 ⟨rfl, hC2, hg2⟩
       have hC2 := hid hC2
       have hg2 := hid hg2)
    | fail)
  go_ret
  exact ⟨rfl, hC2.out, ⟨hg2.out.os.trans hG.out.os, hg2.out.tape.trans hG.out.tape, hg2.out.output.trans hG.out.output, Nat.le_trans hG.out.size hg2.out.size, fun i hi hne => (hg2.out.block i (Nat.lt_of_lt_of_le hi hG.out.size) hne).trans (hG.out.block i hi (by simp))⟩⟩

set_option maxHeartbeats 4000000 in
theorem rindex_any (d : Nat) (hd : d ≤ 20) (hR : RtAt d) (C mb bc bd : Nat) (c : Int) (l : List Fm) (a : Option Addr) (cap : Nat) (w : World) (hl : okL d l) (h0 : 0 ≤ c) (hc : c + Fm.sizeL l ≤ 200) (hC : CBox w C mb c) (hin : FmRow w (fun b => b < C) a l.length cap l)
    (h1 : w.cell? ⟨bc, 0, none⟩ = some (.pointer (some ⟨C, 0, none⟩))) (h2 : w.cell? ⟨bd, 0, none⟩ = some (.int .i64 ((d : Int) + 1))) (hb1 : bc < w.heap.size) (hb2 : bd < w.heap.size) (hn1 : bc ≠ C) (hn2 : bd ≠ C) :
    Calls Tryz.prog 81 #[.slice a l.length cap, .func (.func 52) #[] #[.pointer (some ⟨bc, 0, none⟩), .pointer (some ⟨bd, 0, none⟩)]] w
      fun e w' => e = .returned (.int .i64 (-1)) ∧ CBox w' C mb (c + Fm.sizeL l) ∧ w.grownBy w' (some C) := by
  have hmx := hin.mx
  have hle := hin.le
  unfold maxLen at hmx
  have HR := hid hR
  have HC := hid hC
  have Hin := hid hin
  have Hl := hid hl
  clear hR hC hin hl
  go_enter Tryz.func81, Tryz.ntmps81
  go_wp2_with fail
  go_loopw [8] (fun i wr => ∃ k : Nat, k ≤ l.length ∧ i = .int .i64 k ∧ Hid (CBox wr C mb (c + Fm.sizeL (l.take k)) ∧ w.grownBy wr (some C))) (fun i _ => l.length - (intOf i).toNat)
  case atStart => exact ⟨0, Nat.zero_le _, rfl, by rw [List.take_zero, Fm.sizeL_nil]; simpa using HC.out, grown_refl _ _⟩
  case round =>
    obtain ⟨k, hk, rfl, hK⟩ := hrel
    by_cases hlt : k < l.length
    · have hsz := hK.out.2.size
      have hkeep : ∀ b o, b < w.heap.size → b ≠ C → wr.cell? ⟨b, o, none⟩ = w.cell? ⟨b, o, none⟩ := fun b o hb hne => World.cell?_of_block (w := w) (a := ⟨b, o, none⟩) (hK.out.2.block b hb (by simpa using hne))
      have hlC := HC.out.sz
      have hin' : FmRow wr (fun b => b < C) a l.length cap l := Hin.out.keep fun b o hb => hkeep b o (by have hb' : b < C := hb; omega) (by have hb' : b < C := hb; omega)
      obtain ⟨b, off, ka, kc, rfl, hb, ⟨e0, e1, e2, e3, e4, e5⟩, -, hfm⟩ := hin'.at_ k hlt
      have k0 : (0 : Int) ≤ k := by omega
      have k1 : (k : Int) < l.length := by omega
      have htk : l.take (k + 1) = l.take k ++ [l[k]] := List.take_succ_eq_append_getElem hlt
      have hss : Fm.sizeL (l.take (k + 1)) = Fm.sizeL (l.take k) + l[k].size := by rw [htk, Fm.sizeL_append, Fm.sizeL_cons, Fm.sizeL_nil]; omega
      have hsl : Fm.sizeL (l.take (k + 1)) ≤ Fm.sizeL l := by
        have := Fm.sizeL_append (l.take (k + 1)) (l.drop (k + 1))
        rw [List.take_append_drop] at this
        omega
      have hcall := odd_any d hd HR.out C mb bc bd (c + Fm.sizeL (l.take k)) l[k] ka kc wr (okL_mem Hl.out _ (List.getElem_mem hlt)) (by omega) (by omega) hK.out.1 hfm ((hkeep bc 0 hb1 hn1).trans h1) ((hkeep bd 0 hb2 hn2).trans h2) (by omega) (by omega)
      rw [show c + (Fm.sizeL (l.take k) : Int) + (l[k].size : Int) = c + (Fm.sizeL (l.take (k + 1)) : Int) by omega] at hcall
      have hcall := hid hcall
      have hg0 := hid hK.out.2
      generalize l[k].kind = kd at *
      generalize l[k].prop.k = pk at *
      generalize l[k].prop.t = pt at *
      generalize l[k].prop.a = pa at *
      generalize l[k].prop.n = pn at *
      generalize l[k].kids.length = kl at *
      clear hK hin' hfm hkeep htk hss hsl
      go_wp2_with (first
        | (go_at_call 52
           with_reducible refine hcall.out.mono ?_
           rintro e w1 ⟨rfl, hC1, hg1⟩
           have hX := hid (And.intro hC1 (grown_trans hg0.out hg1))
           clear hC1 hg1)
        | fail)
      go_roundw
      case rel => exact ⟨k + 1, by omega, by go_num, hX.out⟩
      case measure => simp [intOf]; omega
    · obtain rfl : k = l.length := by omega
      rw [List.take_length] at hK
      go_wp2_with fail
      go_ret
      exact ⟨rfl, hK.out.1, hK.out.2⟩
theorem rcontains_any (d : Nat) (hd : d ≤ 20) (hR : RtAt d) (C mb bc bd : Nat) (c : Int) (l : List Fm) (a : Option Addr) (cap : Nat) (w : World) (hl : okL d l) (h0 : 0 ≤ c) (hc : c + Fm.sizeL l ≤ 200) (hC : CBox w C mb c) (hin : FmRow w (fun b => b < C) a l.length cap l)
    (h1 : w.cell? ⟨bc, 0, none⟩ = some (.pointer (some ⟨C, 0, none⟩))) (h2 : w.cell? ⟨bd, 0, none⟩ = some (.int .i64 ((d : Int) + 1))) (hb1 : bc < w.heap.size) (hb2 : bd < w.heap.size) (hn1 : bc ≠ C) (hn2 : bd ≠ C) :
    Calls Tryz.prog 53 #[.slice a l.length cap, .func (.func 52) #[] #[.pointer (some ⟨bc, 0, none⟩), .pointer (some ⟨bd, 0, none⟩)]] w
      fun e w' => e = .returned (.bool false) ∧ CBox w' C mb (c + Fm.sizeL l) ∧ w.grownBy w' (some C) := by
  have hcall := hid (rindex_any d hd hR C mb bc bd c l a cap w hl h0 hc hC hin h1 h2 hb1 hb2 hn1 hn2)
  clear hin hC hl h1 h2 hR
  generalize (Fm.sizeL l : Int) = sz at *
  generalize l.length = n at *
  go_enter Tryz.func53, Tryz.ntmps53
  go_wp2_with (first
    | (go_at_call 81
       with_reducible refine hcall.out.mono ?_
       rintro e w1 ⟨rfl, hC1, hg1⟩
       have hX := hid (And.intro hC1 hg1)
       clear hC1 hg1)
    | fail)
  go_ret
  exact ⟨rfl, hX.out.1, hX.out.2⟩
end Go.Proofs.YtogopcejapklgaaGreatDoor
