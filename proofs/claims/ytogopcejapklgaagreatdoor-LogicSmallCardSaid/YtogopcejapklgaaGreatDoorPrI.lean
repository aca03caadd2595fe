/- The parser takes a formula: what is known on the way. -/
import Derived.Test.YtogopcejapklgaaGreatDoorPrH
import Derived.Deep.CutRange
import Derived.StillTailTactics
namespace Go.Proofs.YtogopcejapklgaaGreatDoor
open Go.RowKit

theorem parL_shp {d c : Nat} {L : List Tok} {k : Int} (hc : c < 200) (hs : shpW (hdT L).text = some k) : parL (d + 1) c L = match numsQ (offs k).length L.tail with | .bad e i => .bad e i | .ok (r, L2) => .ok (.mk 3 (ofP k r) [], L2, c + 1) := by
  simp only [parL]
  rw [if_neg (by omega), hs]
  simp only [numsQ]
  cases numsL (offs k).length [40] L.tail with
  | bad e i => rfl
  | ok x =>
    simp only []
    cases shutP (offs k).length x.2 with
    | bad e i => rfl
    | ok y => rfl
theorem parL_frm {d c : Nat} {L : List Tok} {k : Int} (hc : c < 200) (hs : shpW (hdT L).text = none) (hf : frmW (hdT L).text = some k) : parL (d + 1) c L = match kidsQ d (frmK k) (c + 1) L.tail with | .bad e i => .bad e i | .ok (r, L2, c2) => .ok (.mk k Pr.zero r, L2, c2) := by
  simp only [parL]
  rw [if_neg (by omega), hs, hf]
  simp only [kidsQ]
  cases kidsL (parL d) (frmK k) [40] (c + 1) L.tail with
  | bad e i => rfl
  | ok x =>
    simp only []
    cases shutP (frmK k) x.2.1 with
    | bad e i => rfl
    | ok y => rfl
theorem parL_no {d c : Nat} {L : List Tok} (hc : c < 200) (hs : shpW (hdT L).text = none) (hf : frmW (hdT L).text = none) : parL (d + 1) c L = .bad 21 (hdT L).place := by
  simp only [parL]
  rw [if_neg (by omega), hs, hf]
theorem parL_long {d c : Nat} {L : List Tok} (hc : 200 ≤ c) : parL d c L = .bad 2 (hdT L).place := by
  cases d with
  | zero => simp only [parL]
  | succ d => simp only [parL]; rw [if_pos hc]
theorem okP_wf {p : Pr} (h : okP p) : p.wf := by
  obtain ⟨hk, hb, he⟩ := h
  have hw : ∀ x : Int, 0 ≤ x ∧ x ≤ 999999 → (Lit.int .i64 x).wf = true := fun x hx => WalkArith.wf_i64 (by omega)
  obtain ⟨k, t, a, n⟩ := p
  have hk' : isShp k := hk
  show (Lit.int .i64 k).wf = true ∧ (Lit.int .i64 t).wf = true ∧ (Lit.int .i64 a).wf = true ∧ (Lit.int .i64 n).wf = true
  rcases hk' with rfl | rfl | rfl | rfl | rfl | rfl
  · simp [numsP, offs, Pr.get, ofP, putL, Pr.put] at hb he
    subst he
    exact ⟨by decide, by decide, hw _ ⟨by omega, by omega⟩, hw _ ⟨by omega, by omega⟩⟩
  · simp [numsP, offs, Pr.get, ofP, putL, Pr.put] at hb he
    exact ⟨by decide, hw _ ⟨by omega, by omega⟩, hw _ ⟨by omega, by omega⟩, hw _ ⟨by omega, by omega⟩⟩
  · simp [numsP, offs, Pr.get, ofP, putL, Pr.put] at hb he
    subst he
    exact ⟨by decide, hw _ ⟨by omega, by omega⟩, by decide, hw _ ⟨by omega, by omega⟩⟩
  · simp [numsP, offs, Pr.get, ofP, putL, Pr.put] at hb he
    obtain ⟨rfl, rfl⟩ := he
    exact ⟨by decide, hw _ ⟨by omega, by omega⟩, by decide, by decide⟩
  · simp [numsP, offs, ofP, putL] at hb he
    obtain ⟨rfl, rfl, rfl⟩ := he
    exact ⟨by decide, by decide, by decide, by decide⟩
  · simp [numsP, offs, Pr.get, ofP, putL, Pr.put] at hb he
    obtain ⟨rfl, rfl⟩ := he
    exact ⟨by decide, hw _ ⟨by omega, by omega⟩, by decide, by decide⟩

/-- The function in a shape, by its number. -/
def shpFn (k : Int) : Nat := if k = 1 then 62 else if k = 2 then 63 else if k = 3 then 64 else if k = 5 then 65 else 61
theorem shpV_eq {k : Int} (h : isShp k) : shpV k = .agg #[strV (shpN k), .func (.func (shpFn k)) #[] #[]] := by
  rcases h with rfl | rfl | rfl | rfl | rfl | rfl <;> rfl
theorem prop_any {k : Int} (hk : isShp k) (P : Nat) (L : List Tok) (c : Int) (w : World) (hP : PBox w P L c) (hE : Ends L) : Calls Tryz.prog 46 #[.pointer (some ⟨P, 0, none⟩), .int .i64 k, .agg #[strV (shpN k), .func (.func (shpFn k)) #[] #[]]] w (AtomPost w P k L c) := by
  rcases hk with rfl | rfl | rfl | rfl | rfl | rfl
  · exact prop_1 P L c w hP hE
  · exact prop_2 P L c w hP hE
  · exact prop_3 P L c w hP hE
  · exact prop_4 P L c w hP hE
  · exact prop_5 P L c w hP hE
  · exact prop_6 P L c w hP hE

/-- On the way: the boxes of the parser and of the depth, the result's block. -/
structure FSt (w x : World) (P : Nat) (wi : Int) (L : List Tok) (c : Int) : Prop where
  gr : w.grownBy x (some P)
  box : PBox x P L c
  n0 : x.cell? ⟨w.heap.size, 0, none⟩ = some (.pointer (some ⟨P, 0, none⟩))
  n1 : x.cell? ⟨w.heap.size + 1, 0, none⟩ = some (.int .i64 wi)
  n2 : x.heap[w.heap.size + 1 + 1]? = some (.cells #[.int .i64 0, .int .i64 0, .int .i64 0, .int .i64 0, .int .i64 0, .slice none 0 0] 30 (0, 0))
  sz : w.heap.size + 1 + 1 < x.heap.size
  lt : P < w.heap.size
namespace FSt
variable {w x y : World} {P : Nat} {wi : Int} {L L' : List Tok} {c c' : Int}
theorem next (h : FSt w x P wi L c) {r : Option Nat} (hg : x.grownBy y r) (hr : ∀ k, r = some k → k = P ∨ w.heap.size + 1 + 1 < k) (hb : PBox y P L' c') : FSt w y P wi L' c' := by
  have hs := h.sz
  have hl := h.lt
  have hk : ∀ b, b ≤ w.heap.size + 1 + 1 → b ≠ P → y.heap[b]? = x.heap[b]? := fun b hlt hne => hg.block b (by omega) fun e => by rcases hr b e.symm with h | h <;> omega
  have hgr := h.gr
  refine ⟨⟨hg.os.trans hgr.os, hg.tape.trans hgr.tape, hg.output.trans hgr.output, Nat.le_trans hgr.size hg.size, fun b hb hne => (hk b (by omega) (by simpa using hne)).trans (hgr.block b hb hne)⟩, hb, ?_, ?_, ?_, Nat.lt_of_lt_of_le hs hg.size, hl⟩
  · exact (World.cell?_of_block (w := x) (a := ⟨w.heap.size, 0, none⟩) (hk w.heap.size (by omega) (by omega))).trans h.n0
  · exact (World.cell?_of_block (w := x) (a := ⟨w.heap.size + 1, 0, none⟩) (hk (w.heap.size + 1) (by omega) (by omega))).trans h.n1
  · exact (hk (w.heap.size + 1 + 1) (by omega) (by omega)).trans h.n2
theorem grown (h : FSt w x P wi L c) {r : Option Nat} (hg : x.grownBy y r) (hr : ∀ k, r = some k → w.heap.size + 1 + 1 < k) : FSt w y P wi L c :=
  h.next hg (fun k e => .inr (hr k e)) (h.box.grown hg fun k e => by have := hr k e; have := h.lt; omega)
theorem alloc (h : FSt w x P wi L c) (o : Obj) : FSt w (x.alloc o) P wi L c := h.grown (World.grownBy_alloc x o none) fun _ e => by cases e
theorem drew (h : FSt w x P wi L c) : FSt w x.drew P wi L c := h.grown (r := none) (grown_drew (grown_refl _ _)) fun _ e => by cases e
theorem below (h : FSt w x P wi L c) (hb : Below x.heap.size x y) : FSt w y P wi L c := h.grown (below_grown hb none) fun _ e => by cases e
/-- The result is written. -/
theorem res (h : FSt w x P wi L c) (c0 c1 c2 c3 c4 c5 : Value) :
    FSt w x P wi L c ∧ PBox ((((((x.setCell ⟨w.heap.size + 1 + 1, 0, none⟩ c0).setCell ⟨w.heap.size + 1 + 1, 1, none⟩ c1).setCell ⟨w.heap.size + 1 + 1, 2, none⟩ c2).setCell ⟨w.heap.size + 1 + 1, 3, none⟩ c3).setCell ⟨w.heap.size + 1 + 1, 4, none⟩ c4).setCell ⟨w.heap.size + 1 + 1, 5, none⟩ c5) P L c ∧
    w.grownBy ((((((x.setCell ⟨w.heap.size + 1 + 1, 0, none⟩ c0).setCell ⟨w.heap.size + 1 + 1, 1, none⟩ c1).setCell ⟨w.heap.size + 1 + 1, 2, none⟩ c2).setCell ⟨w.heap.size + 1 + 1, 3, none⟩ c3).setCell ⟨w.heap.size + 1 + 1, 4, none⟩ c4).setCell ⟨w.heap.size + 1 + 1, 5, none⟩ c5) (some P) :=
  ⟨h, h.box.grown (six_grown _ _ _ _ _ _ _ _) (fun n hn => by have := h.lt; simp at hn; omega), grown_new h.gr (six_grown _ _ _ _ _ _ _ _) (fun n hn => by simp at hn; omega)⟩
end FSt
/-- No shape so far has this word. -/
def NoS (t : List UInt8) (D : Int → Prop) : Prop := ∀ k, D k → shpN k ≠ t
def NoF (t : List UInt8) (D : Int → Prop) : Prop := ∀ k, D k → frmN k ≠ t
theorem NoS.none {t : List UInt8} {D : Int → Prop} (h : NoS t D) (hD : ∀ p ∈ shpT, D p.1) : shpW t = none := by
  cases hs : shpW t with
  | none => rfl
  | some k =>
    obtain ⟨h1, h2⟩ := shpW_some hs
    obtain ⟨p, hp, e⟩ := shpT_in h1
    have := h k (e ▸ hD p hp)
    exact absurd h2 this
theorem NoF.none {t : List UInt8} {D : Int → Prop} (h : NoF t D) (hD : ∀ p ∈ frmT, D p.1) : frmW t = none := by
  cases hs : frmW t with
  | none => rfl
  | some k =>
    obtain ⟨h1, h2⟩ := frmW_some hs
    obtain ⟨p, hp, e⟩ := frmT_in h1
    have := h k (e ▸ hD p hp)
    exact absurd h2 this

set_option maxRecDepth 100000 in
set_option maxHeartbeats 4000000 in
/-- Too deep, or too many. -/
theorem formula_long (D : Nat) (P c : Nat) (L : List Tok) (wi : Int) (w : World) (hwi : wi = 20 - D) (hD : D ≤ 20) (hc : c ≤ 200) (hbad : D = 0 ∨ c = 200) (hP : PBox w P L c) (hE : Ends L) :
    Calls Tryz.prog 26 #[.pointer (some ⟨P, 0, none⟩), .int .i64 wi] w (FormPost w P D c L) := by
  have hpar : parL D c L = .bad 2 (hdT L).place := by
    rcases hbad with rfl | rfl
    · simp only [parL]
    · exact parL_long (Nat.le_refl _)
  have hlt := hP.lt
  have HP := hid hP
  have HE := hid hE
  have hm := hP.c1
  have hf := hP.f0 1
  have c0 : (0 : Int) ≤ c := by omega
  have c1 : (c : Int) ≤ 200 := by omega
  have hfin : Hid (∀ x, w.grownBy x (some P) → FormPost w P D c L (wrongP 2 (hdT L).place) x) := fun x hg => by unfold FormPost; rw [hpar]; exact ⟨rfl, hg⟩
  have Hwi := hid hwi
  clear hpar hP hE hwi
  go_enter Tryz.func26, Tryz.ntmps26
  go_upto_region 1 with fail
  generalize hW : World.alloc _ _ = W0
  have hS0 : Hid (FSt w W0 P wi L c) := by
    subst hW
    exact ⟨grown_alloc (grown_alloc (grown_alloc (grown_refl _ _) _) _) _, ((HP.out.alloc _).alloc _).alloc _, by go_simp, by go_simp, alloc_at (by simp), by simp, hlt⟩
  clear hW hm hf
  obtain ⟨-, -, hm, hf⟩ := hS0.out.box
  have hf := hf 1
  have h0 := hS0.out.n0
  have h1 := hS0.out.n1
  have hsz := hS0.out.sz
  go_upto_region 2 with fail
  generalize hW : World.setCell W0 _ _ = W1
  have hS1 : Hid (FSt w W1 P wi L (c + 1 : Nat)) := by
    subst hW
    exact hS0.out.next (grown_set _ _ _ _) (fun k e => .inl (Option.some.inj e).symm) (hS0.out.box.more _)
  clear hW hm hf h0 h1 hsz hS0
  have q0 := hS1.out.n0
  have q1 := hS1.out.n1
  have q2 := hS1.out.box.c1
  have hno := hid (want_no P L ((c + 1 : Nat) : Int) 2 W1.drew hS1.out.box.drew HE.out)
  have hfin := hid (hfin.out W1.drew (grown_drew hS1.out.gr))
  by_cases h0 : D = 0
  · have hw1 : decide (wi < 20) = false := decide_eq_false (by have := Hwi.out; omega)
    clear h0 hbad
    go_still_tail 10, (by kernel_rfl)
    change wpList _ _ _ _ _ W1.drew
    go_wp2_with (first
      | (go_at_call 27
         with_reducible refine hno.out.mono ?_
         rintro e w1 ⟨rfl, rfl⟩)
      | fail)
    exact ⟨rfl, hfin.out⟩
  · obtain rfl : c = 200 := by omega
    have hw1 : decide (wi < 20) = true := decide_eq_true (by have := Hwi.out; omega)
    have hw2 : decide (((200 + 1 : Nat) : Int) ≤ 200) = false := rfl
    clear h0 hbad
    go_still_tail 10, (by kernel_rfl)
    change wpList _ _ _ _ _ W1.drew
    go_wp2_with (first
      | (go_at_call 27
         with_reducible refine hno.out.mono ?_
         rintro e w1 ⟨rfl, rfl⟩)
      | fail)
    exact ⟨rfl, hfin.out⟩
end Go.Proofs.YtogopcejapklgaaGreatDoor
