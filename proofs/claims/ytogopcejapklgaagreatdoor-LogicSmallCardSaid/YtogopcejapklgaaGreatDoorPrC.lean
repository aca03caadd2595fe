/- The parser takes an atom's numbers: the closure, a number. -/
import Derived.Test.YtogopcejapklgaaGreatDoorPrA
import Derived.Test.YtogopcejapklgaaGreatDoorLgF
namespace Go.Proofs.YtogopcejapklgaaGreatDoor
open Go.RowKit

/-- Nothing but two blocks has turned. -/
structure But2 (w w' : World) (P B : Nat) : Prop where
  os : w'.os = w.os
  tape : w'.tape = w.tape
  output : w'.output = w.output
  size : w.heap.size ≤ w'.heap.size
  block : ∀ b, b < w.heap.size → b ≠ P → b ≠ B → w'.heap[b]? = w.heap[b]?
theorem But2.refl (w : World) (P B : Nat) : But2 w w P B := ⟨rfl, rfl, rfl, Nat.le_refl _, fun _ _ _ _ => rfl⟩
theorem But2.trans {a b c : World} {P B : Nat} (h : But2 a b P B) (g : But2 b c P B) : But2 a c P B :=
  ⟨g.os.trans h.os, g.tape.trans h.tape, g.output.trans h.output, Nat.le_trans h.size g.size, fun k hk h1 h2 => (g.block k (Nat.lt_of_lt_of_le hk h.size) h1 h2).trans (h.block k hk h1 h2)⟩
theorem But2.of {w w' : World} {P : Nat} (h : w.grownBy w' (some P)) (B : Nat) : But2 w w' P B := ⟨h.os, h.tape, h.output, h.size, fun b hb h1 _ => h.block b hb (by simpa using h1)⟩
theorem But2.new {a b c : World} {P B : Nat} (h : a.grownBy b (some P)) (g : But2 b c P B) (hB : a.heap.size ≤ B) : a.grownBy c (some P) :=
  ⟨g.os.trans h.os, g.tape.trans h.tape, g.output.trans h.output, Nat.le_trans h.size g.size, fun k hk h1 => (g.block k (Nat.lt_of_lt_of_le hk h.size) (by simpa using h1) (by omega)).trans (h.block k hk h1)⟩
/-- A formula's six cells, as a block. -/
def fmO (k : Int) (p : Pr) (v : Value) : Obj := .cells #[.int .i64 k, .int .i64 p.k, .int .i64 p.t, .int .i64 p.a, .int .i64 p.n, v] 30 (0, 0)
theorem fmO_put {w : World} {B : Nat} {k : Int} {p : Pr} {v : Value} {i : Nat} (hi : 1 ≤ i ∧ i ≤ 3) (h : w.heap[B]? = some (fmO k p v)) (n : Int) : (w.setCell ⟨B, 1 + i, none⟩ (.int .i64 n)).heap[B]? = some (fmO k (p.put i n) v) := by
  have : i = 1 ∨ i = 2 ∨ i = 3 := by omega
  rcases this with rfl | rfl | rfl <;> simp [World.setCell, Array.getElem?_modify, h, fmO, Pr.put]
theorem fmO_cells {w : World} {B : Nat} {k : Int} {p : Pr} {v : Value} (h : w.heap[B]? = some (fmO k p v)) : B < w.heap.size ∧ (∀ o, w.frozen? ⟨B, o, none⟩ = false) ∧ w.cell? ⟨B, 0, none⟩ = some (.int .i64 k) ∧ w.cell? ⟨B, 1, none⟩ = some (.int .i64 p.k) ∧ w.cell? ⟨B, 2, none⟩ = some (.int .i64 p.t) ∧
    w.cell? ⟨B, 3, none⟩ = some (.int .i64 p.a) ∧ w.cell? ⟨B, 4, none⟩ = some (.int .i64 p.n) ∧ w.cell? ⟨B, 5, none⟩ = some v := by
  refine ⟨(Array.getElem?_eq_some_iff.1 h).1, fun o => ?_, ?_, ?_, ?_, ?_, ?_, ?_⟩
  all_goals simp [World.frozen?, World.cell?, h, fmO]

def NmbPost (w : World) (P B i : Nat) (k : Int) (p : Pr) (v : Value) (L : List Tok) (c : Int) (e : Ending) (w' : World) : Prop :=
  if (hdT L).kind = 2 then e = .returned (.tuple #[]) ∧ PBox w' P L.tail c ∧ w'.heap[B]? = some (fmO k (p.put i (hdT L).n) v) ∧ But2 w w' P B
  else e = wrongP 21 (hdT L).place ∧ w.grownBy w' (some P)
set_option maxHeartbeats 4000000 in
set_option maxRecDepth 100000 in
theorem num_any (P bp bt bb B o i n : Nat) (k : Int) (p : Pr) (v : Value) (L : List Tok) (c : Int) (w : World) (hP : PBox w P L c) (hE : Ends L) (h1 : w.cell? ⟨bp, 0, none⟩ = some (.pointer (some ⟨P, 0, none⟩))) (h2 : w.cell? ⟨bt, 0, none⟩ = some (.slice (some ⟨bb, 0, none⟩) n n))
    (h3 : w.cell? ⟨bb, i, none⟩ = some (.pointer (some ⟨B, 1 + o, none⟩))) (hi : i < n) (_hn : n ≤ 3) (ho : 1 ≤ o ∧ o ≤ 3) (hB : w.heap[B]? = some (fmO k p v)) (hPB : P < B) (_hbp : bp ≠ P ∧ bp ≠ B) :
    Calls Tryz.prog 79 #[.int .i64 i, .pointer (some ⟨bp, 0, none⟩), .pointer (some ⟨bt, 0, none⟩)] w (NmbPost w P B o k p v L c) := by
  obtain ⟨b, off, cap, h0, hb, hl1, hl2, hl3, g0, g1, g2, g3, hT⟩ := hP.hd hE
  have hlt := hP.lt
  have hno := hid (want_no P L c 21 w.drew hP.drew hE)
  have hf := hP.f0 0
  have i1 : (0 : Int) ≤ i := by omega
  have i2 : (i : Int) < n := by omega
  unfold maxLen at hl3
  obtain ⟨z9, zf, -⟩ := fmO_cells hB
  have zf := zf (1 + o)
  obtain ⟨vo, hvo⟩ : ∃ vo, w.cell? ⟨B, 1 + o, none⟩ = some vo := by
    obtain ⟨-, -, -, -, y1, y2, y3, -⟩ := fmO_cells hB
    have : o = 1 ∨ o = 2 ∨ o = 3 := by omega
    rcases this with rfl | rfl | rfl
    · exact ⟨_, y1⟩
    · exact ⟨_, y2⟩
    · exact ⟨_, y3⟩
  by_cases hk : (hdT L).kind = 2
  · have hL1 : 1 < L.length := by
      obtain ⟨t, M, rfl⟩ := hE.cons_
      have hk' : t.kind ≠ 0 := by have : t.kind = 2 := hk; omega
      obtain ⟨t2, M2, rfl⟩ := (hE.tail (.inl hk')).cons_
      simp
    have hkb : ((hdT L).kind == 2) = true := by simpa using hk
    have hyes := want_yes P 21
    have hfin : Hid (∀ w' : World, w'.os = w.os → w'.tape = w.tape → w'.output = w.output → w'.heap = ((w.setCell ⟨B, 1 + o, none⟩ (.int .i64 (hdT L).n)).setCell ⟨P, 0, none⟩ (.slice (some ⟨b, off + 4, none⟩) (L.length - 1) (cap - 1))).heap → NmbPost w P B o k p v L c (.returned (.tuple #[])) w') := by
      intro w' q1 q2 q3 q4
      unfold NmbPost
      rw [if_pos hk]
      have hP1 := hP.set (o := 1 + o) hPB (.int .i64 (hdT L).n)
      have hT1 : TkIn (w.setCell ⟨B, 1 + o, none⟩ (.int .i64 (hdT L).n)) (fun b => b < P) (some ⟨b, off, none⟩) L.length cap L := hT.keep fun k o' hk => World.cell?_setCell_other _ _ _ _ (by intro e; injection e; omega)
      have hP2 := hP1.take (by intro h; rw [h] at hL1; simp at hL1) hT1
      rw [List.length_tail] at hP2
      refine ⟨rfl, hP2.keep (by rw [q4]; exact Nat.le_refl _) fun k _ => by rw [q4], ?_, q1, q2, q3, by rw [q4]; simp [World.setCell], fun k _ h1 h2 => ?_⟩
      · rw [q4, Below.heap_setCell _ _ _ _ (by simp; omega)]
        exact fmO_put ho hB _
      · rw [q4, Below.heap_setCell _ _ _ _ (by simpa using h1), Below.heap_setCell _ _ _ _ (by simpa using h2)]
    generalize L.length = m at *
    generalize (hdT L).n = nn at *
    have i0n : 0 < m := by omega
    have i1n : i < n := hi
    go_enter Tryz.func79, Tryz.ntmps79
    go_wp2_with fail
    go_still_tail 9, (by kernel_rfl)
    change wpList _ _ _ _ _ w.drew
    go_wp2_with (first
      | (go_at_call 27
         with_reducible refine (hyes _).mono ?_
         rintro e w1 ⟨rfl, rfl⟩)
      | fail)
    have q1 : w.drew.cell? ⟨bp, 0, none⟩ = some (.pointer (some ⟨P, 0, none⟩)) := h1
    have q2 : w.drew.cell? ⟨bt, 0, none⟩ = some (.slice (some ⟨bb, 0, none⟩) n n) := h2
    have q3 : w.drew.cell? ⟨bb, i, none⟩ = some (.pointer (some ⟨B, 1 + o, none⟩)) := h3
    have q4 : w.drew.cell? ⟨P, 0, none⟩ = some (.slice (some ⟨b, off, none⟩) m cap) := h0
    have q5 : w.drew.cell? ⟨b, off + 2, none⟩ = some (.int .i64 nn) := g2
    have q6 : w.drew.frozen? ⟨P, 0, none⟩ = false := hf
    have q7 : w.drew.frozen? ⟨B, 1 + o, none⟩ = false := zf
    have q8 : w.drew.cell? ⟨B, 1 + o, none⟩ = some vo := hvo
    have Q : Hid (w.drew.heap = w.heap ∧ w.drew.os = w.os ∧ w.drew.tape = w.tape ∧ w.drew.output = w.output) := ⟨rfl, rfl, rfl, rfl⟩
    have HF := hfin
    clear h0 g0 g1 g2 g3 h1 h2 h3 hf zf hfin hvo hB hP hT
    generalize w.drew = w1 at *
    go_still_tail 12, (by kernel_rfl)
    change wpList _ _ _ _ _ w1.drew
    have r1 : w1.drew.cell? ⟨B, 1 + o, none⟩ = some vo := q8
    have r2 : w1.drew.frozen? ⟨B, 1 + o, none⟩ = false := q7
    go_wp2_with fail
    generalize hV : (w1.setCell ⟨B, 1 + o, none⟩ (.int .i64 nn)).drew = V
    have p1 : V.cell? ⟨bp, 0, none⟩ = some (.pointer (some ⟨P, 0, none⟩)) := by subst hV; go_simp
    have p4 : V.cell? ⟨P, 0, none⟩ = some (.slice (some ⟨b, off, none⟩) m cap) := by subst hV; go_simp
    have p6 : V.frozen? ⟨P, 0, none⟩ = false := by subst hV; go_simp
    have HV : Hid (V.heap = (w.setCell ⟨B, 1 + o, none⟩ (.int .i64 nn)).heap ∧ V.os = w.os ∧ V.tape = w.tape ∧ V.output = w.output) := by
      obtain ⟨y1, y2, y3, y4⟩ := Q.out
      subst hV
      exact ⟨by simp [World.setCell, World.drew, y1], y2, y3, y4⟩
    clear hV q1 q2 q3 q4 q5 q6 q7 q8 r1 r2 Q
    have s1 : (1 : Int) ≤ m := by omega
    have s2 : (m : Int) ≤ cap := by omega
    have s3 : 1 < cap := by omega
    have s4 : ¬ cap = 1 := by omega
    have s5 : (1 : Int) < cap := by omega
    go_still_tail 8, (by kernel_rfl)
    change wpList _ _ _ _ _ V.drew
    have p4 : V.drew.cell? ⟨P, 0, none⟩ = some (.slice (some ⟨b, off, none⟩) m cap) := p4
    have p6 : V.drew.frozen? ⟨P, 0, none⟩ = false := p6
    go_wp2_with fail
    go_end0
    obtain ⟨y1, y2, y3, y4⟩ := HV.out
    refine HF.out _ y2 y3 y4 ?_
    simp [World.setCell, World.drew, y1]
  · have hkb : ((hdT L).kind == 2) = false := by simpa using hk
    have i0n : 0 < L.length := by omega
    generalize L.length = m at *
    have hfin : Hid (NmbPost w P B o k p v L c (wrongP 21 (hdT L).place) w.drew) := by unfold NmbPost; rw [if_neg hk]; exact ⟨rfl, grown_drew (grown_refl _ _)⟩
    go_enter Tryz.func79, Tryz.ntmps79
    go_wp2_with fail
    go_still_tail 9, (by kernel_rfl)
    change wpList _ _ _ _ _ w.drew
    go_wp2_with (first
      | (go_at_call 27
         with_reducible refine hno.out.mono ?_
         rintro e w1 ⟨rfl, rfl⟩)
      | fail)
    exact ⟨rfl, hfin.out⟩
end Go.Proofs.YtogopcejapklgaaGreatDoor
