/- A program that is being made by numbers. -/
import Derived.Test.YtphlbbnmligadaaGreatDoorMkP
import Derived.Test.YtphlbbnmligadaaGreatDoorBunM
import Derived.Deep.CutRange
namespace Go.Proofs.YtphlbbnmligadaaGreatDoor
open Go.RowKit

section
variable {P : Program} {l : List Oper} {Q : Exit → Act → World → Prop} {md : Region.Mode} {S : World → Prop}
/-- Three operations may come up. -/
theorem callL3 {fuel : Nat} {listed : Array Bool} {a : Act} {w : World} {i j k : Nat} {oi oj ok : Oper} (hr : Region.ready md l.toArray listed = [i, j, k]) (hi : l[i]? = some oi) (hj : l[j]? = some oj) (hk : l[k]? = some ok)
    (h1 : ∀ K' : Act → World → Prop, Shut (∀ a w, S w → (S w → wpAnyH P md l.toArray Q S fuel (listed.setIfInBounds i true) a w) → K' a w) → if Region.wanted oi (yielded l.toArray a.tmps) = true then Oper.wp P oi a w K' Q else K' (a.put oi.dst undef) w)
    (h2 : ∀ K' : Act → World → Prop, Shut (∀ a w, S w → (S w → wpAnyH P md l.toArray Q S fuel (listed.setIfInBounds j true) a w) → K' a w) → if Region.wanted oj (yielded l.toArray a.tmps) = true then Oper.wp P oj a w K' Q else K' (a.put oj.dst undef) w)
    (h3 : ∀ K' : Act → World → Prop, Shut (∀ a w, S w → (S w → wpAnyH P md l.toArray Q S fuel (listed.setIfInBounds k true) a w) → K' a w) → if Region.wanted ok (yielded l.toArray a.tmps) = true then Oper.wp P ok a w K' Q else K' (a.put ok.dst undef) w) :
    wpAnyH P md l.toArray Q S (fuel + 1) listed a w :=
  wpAnyH_ready (rs := [i, j, k]) hr (by simp) (AllReadyH.cons (by simpa using hi) h1 (AllReadyH.cons (by simpa using hj) h2 (AllReadyH.cons (by simpa using hk) h3 AllReadyH.nil)))
end

/-- The three names. -/
def nmX : ByteArray := ⟨#[120]⟩
def nmY : ByteArray := ⟨#[121]⟩
def nmZ : ByteArray := ⟨#[122]⟩
def nms (q : Nat) : List ByteArray := [nmX, nmY, nmZ].take q
def z3 : Array Value := #[.slice none 0 0, .int .i64 0, .slice none 0 0]
def s3 : Array Value := #[.string nmX, .string nmY, .string nmZ]
/-- A program that is being made lies in block P, its names in block V. -/
structure PB (w wx : World) (m t P V q : Nat) (dom : Int) (v : Value) : Prop where
  hP : wx.heap[P]? = some (.cells #[.slice (some ⟨V, 0, none⟩) q 3, .int .i64 dom, v] 27 (0, 0))
  hR : wx.heap[w.heap.size]? = some (.cells z3 27 (0, 0))
  hV : wx.heap[V]? = some (.cells s3 9 (0, 0))
  mkr : Mkr wx w.heap.size m t
  bl : Below w.heap.size w wx
  mR : w.heap.size < m
  rP : w.heap.size < P
  rV : w.heap.size < V
  mP : P ≠ m
  mV : V ≠ m
  ne : P ≠ V
/-- What has been made so far. -/
def PG (w wx : World) (m t : Nat) (ob : List (Nat × Obj)) : Prop :=
  Mkr wx w.heap.size m t ∧ (Below w.heap.size w wx ∧ w.heap.size < m) ∧ wx.heap[w.heap.size]? = some (.cells z3 27 (0, 0)) ∧ ∀ p ∈ ob, wx.heap[p.1]? = some p.2 ∧ w.heap.size < p.1 ∧ p.1 ≠ m
namespace PG
variable {w wx w2 : World} {m t t2 : Nat} {ob : List (Nat × Obj)}
theorem mkr (h : PG w wx m t ob) : Mkr wx w.heap.size m t := h.1
theorem at_ (h : PG w wx m t ob) : ∀ p ∈ ob, wx.heap[p.1]? = some p.2 ∧ w.heap.size < p.1 ∧ p.1 ≠ m := h.2.2.2
theorem drew (h : PG w wx m t ob) : PG w wx.drew m t ob := ⟨h.1.below (Below.refl _ _).drew, ⟨h.2.1.1.drew, h.2.1.2⟩, h.2.2.1, h.2.2.2⟩
theorem pick (h : PG w wx m t ob) (hM : Mkr w2 w.heap.size m t2) (hg : wx.grownBy w2 (some m)) : PG w w2 m t2 ob := by
  obtain ⟨h1, ⟨h2, h2'⟩, h3, h4⟩ := h
  have lt : ∀ {b o}, wx.heap[b]? = some o → b < wx.heap.size := fun e => (Array.getElem?_eq_some_iff.1 e).1
  refine ⟨hM, ⟨h2.grown hg h2.size fun k hk => by cases hk; omega, h2'⟩, (hg.block _ (lt h3) (by simp; omega)).trans h3, fun p hp => ?_⟩
  obtain ⟨e, r, ne⟩ := h4 p hp
  exact ⟨(hg.block _ (lt e) (by simpa using ne)).trans e, r, ne⟩
theorem alloc {o : Obj} (h : PG w wx m t ob) (he : wx.alloc o = w2) : PG w w2 m t ((wx.heap.size, o) :: ob) := by
  subst he
  obtain ⟨h1, ⟨h2, h2'⟩, h3, h4⟩ := h
  have lt : ∀ {b o}, wx.heap[b]? = some o → b < wx.heap.size := fun e => (Array.getElem?_eq_some_iff.1 e).1
  have hg := World.grownBy_alloc wx o none
  have hm := h1.lt
  have hr := lt h3
  refine ⟨h1.alloc o, ⟨h2.alloc h2.size o, h2'⟩, (hg.block _ hr (by simp)).trans h3, fun p hp => ?_⟩
  rcases List.mem_cons.1 hp with rfl | hp
  · exact ⟨heap_alloc_new wx o, hr, by show wx.heap.size ≠ m; omega⟩
  · obtain ⟨e, r, ne⟩ := h4 p hp
    exact ⟨(hg.block _ (lt e) (by simp)).trans e, r, ne⟩
theorem fin (h : PG w wx m t ob) {V P q : Nat} {dom : Int} (hV : wx.heap[V]? = some (.cells s3 9 (0, 0)) ∧ w.heap.size < V ∧ V ≠ m) (hP : wx.heap[P]? = some (.cells z3 27 (0, 0)) ∧ w.heap.size < P ∧ P ≠ m) :
    PB w (((wx.setCell ⟨P, 0, none⟩ (.slice (some ⟨V, 0, none⟩) q 3)).setCell ⟨P, 1, none⟩ (.int .i64 dom)).setCell ⟨P, 2, none⟩ (.slice none 0 0)) m t P V q dom (.slice none 0 0) := by
  obtain ⟨h1, ⟨h2, h2'⟩, h3, h4⟩ := h
  obtain ⟨v1, v2, v3⟩ := hV
  obtain ⟨p1, p2, p3⟩ := hP
  have hne : P ≠ V := by
    rintro rfl
    rw [v1] at p1
    simp [s3, z3] at p1
  have hk : ∀ b, b ≠ P → (((wx.setCell ⟨P, 0, none⟩ (.slice (some ⟨V, 0, none⟩) q 3)).setCell ⟨P, 1, none⟩ (.int .i64 dom)).setCell ⟨P, 2, none⟩ (.slice none 0 0)).heap[b]? = wx.heap[b]? := fun b hb => by
    rw [Below.heap_setCell _ _ _ _ (by simpa using hb), Below.heap_setCell _ _ _ _ (by simpa using hb), Below.heap_setCell _ _ _ _ (by simpa using hb)]
  have hB := h1.1
  refine ⟨by simp [World.setCell, Array.getElem?_modify, p1, z3], (hk _ (by omega)).trans h3, (hk _ (fun e => hne e.symm)).trans v1, ?_, ((h2.setCell (by show w.heap.size ≤ P; omega) _).setCell (by show w.heap.size ≤ P; omega) _).setCell (by show w.heap.size ≤ P; omega) _, h2', p2, v2, p3, v3, hne⟩
  exact h1.keep (hk _ (fun e => p3 e.symm)) fun b o hb => World.cell?_of_block (hk b (by omega))
end PG
namespace PB
variable {w wx w2 : World} {m t t2 P V q : Nat} {dom : Int} {v : Value}
theorem keep (h : PB w wx m t P V q dom v) (hM : Mkr w2 w.heap.size m t2) (hb : Below w.heap.size w w2) (hk : ∀ b, b = P ∨ b = V ∨ b = w.heap.size → w2.heap[b]? = wx.heap[b]?) : PB w w2 m t2 P V q dom v :=
  ⟨(hk P (.inl rfl)).trans h.hP, (hk _ (.inr (.inr rfl))).trans h.hR, (hk V (.inr (.inl rfl))).trans h.hV, hM, hb, h.mR, h.rP, h.rV, h.mP, h.mV, h.ne⟩
theorem call (h : PB w wx m t P V q dom v) (hM : Mkr w2 w.heap.size m t2) (hg : wx.grownBy w2 (some m)) : PB w w2 m t2 P V q dom v := by
  have lt : ∀ {b o}, wx.heap[b]? = some o → b < wx.heap.size := fun e => (Array.getElem?_eq_some_iff.1 e).1
  have hmR := h.mR
  refine h.keep hM (h.bl.grown hg h.bl.size fun k hk => by cases hk; omega) fun b hb => ?_
  rcases hb with rfl | rfl | rfl
  · exact hg.block _ (lt h.hP) (by have := h.mP; simpa using this)
  · exact hg.block _ (lt h.hV) (by have := h.mV; simpa using this)
  · exact hg.block _ (lt h.hR) (by simp; omega)
theorem alloc (h : PB w wx m t P V q dom v) (o : Obj) : PB w (wx.alloc o) m t P V q dom v := by
  have lt : ∀ {b o}, wx.heap[b]? = some o → b < wx.heap.size := fun e => (Array.getElem?_eq_some_iff.1 e).1
  refine h.keep (h.mkr.alloc o) (h.bl.alloc h.bl.size o) fun b hb => (World.grownBy_alloc wx o none).block b ?_ (by simp)
  rcases hb with rfl | rfl | rfl
  · exact lt h.hP
  · exact lt h.hV
  · exact lt h.hR
theorem drew (h : PB w wx m t P V q dom v) : PB w wx.drew m t P V q dom v := h.keep (h.mkr.below (Below.refl _ _).drew) h.bl.drew fun _ _ => rfl
theorem cells (h : PB w wx m t P V q dom v) : wx.cell? ⟨P, 0, none⟩ = some (.slice (some ⟨V, 0, none⟩) q 3) ∧ wx.cell? ⟨P, 1, none⟩ = some (.int .i64 dom) ∧ wx.cell? ⟨P, 2, none⟩ = some v ∧ wx.frozen? ⟨P, 2, none⟩ = false :=
  ⟨cell_of_heap h.hP, cell_of_heap h.hP, cell_of_heap h.hP, unfrozen h.hP⟩
end PB
/-- Some threads have been made, since wc. -/
structure PT (w wc wx : World) (m t P V q : Nat) (dom : Int) (v : Value) (T : List (List St)) : Prop where
  pb : PB w wx m t P V q dom v
  lt : m < wc.heap.size ∧ P < wc.heap.size ∧ V < wc.heap.size ∧ w.heap.size < wc.heap.size
  sz : wc.heap.size ≤ wx.heap.size
  ts : TsX wx wc.heap.size wx.heap.size v T
  ok : ∀ L ∈ T, okL q dom 20 L = true ∧ SmL L
/-- A thread that a call has made, behind those that have been collected. -/
def Pnd (wc x : World) (v : Value) (T : List (List St)) (a : Option Addr) (c : Nat) (L : List St) : Prop :=
  ∃ p, wc.heap.size ≤ p ∧ p ≤ x.heap.size ∧ TsX x wc.heap.size p v T ∧ StsX x p x.heap.size (.slice a L.length c) L
theorem Pnd.alloc {wc x : World} {v : Value} {T : List (List St)} {a : Option Addr} {c : Nat} {L : List St} (h : Pnd wc x v T a c L) (o : Obj) : Pnd wc (x.alloc o) v T a c L := by
  obtain ⟨p, h1, h2, h3, h4⟩ := h
  have hk : ∀ b, b < x.heap.size → (x.alloc o).heap[b]? = x.heap[b]? := fun b hb => (World.grownBy_alloc x o none).block b hb (by simp)
  exact ⟨p, h1, by simp; omega, h3.kept fun b _ hb => hk b (by omega), (h4.kept fun b _ hb => hk b hb).widen (by simp)⟩
theorem step_tsP {ops : Array Oper} {o : Oper} {a : Act} {w wc : World} {K : Act → World → Prop} {Q : Exit → Act → World → Prop} {E : Prop} (s x : Operand) (v : Value) (T : List (List St)) (y : List St) (au : Option Addr) (cu : Nat)
    (hgd : o.guard = none) (ho : o.op = .call { callee := .builtin .append, args := #[s, x], argTypes := #[25, 25] })
    (hsv : a.eval s = v) (h0 : Pnd wc w v T au cu y) (hsrc : ∃ A c, a.eval x = .slice A 1 c ∧ SrcAt w 1 A 1 [.slice au y.length cu]) (hb : T.length ≤ 1000)
    (h : ∀ A c w', TsX w' wc.heap.size w'.heap.size (.slice A (T.length + 1) c) (T ++ [y]) → w.grownBy w' v.ownBlock → ((Value.slice A (T.length + 1) c).ownBlock = v.ownBlock ∨ (Value.slice A (T.length + 1) c).ownBlock = some w.heap.size) → K (a.put o.dst (.slice A (T.length + 1) c)) w') :
    if Region.wanted o (yielded ops a.tmps) = true then Oper.wp Tryz.prog o a w K Q else E := by
  obtain ⟨p, h1, h2, h3, h4⟩ := h0
  exact step_tsX s x v T y au cu hgd ho hsv h3 h4 h1 h2 hsrc hb h
namespace PT
variable {w wc wx w2 w3 : World} {m t t2 P V q : Nat} {dom : Int} {v v' : Value} {T : List (List St)}
theorem call (h : PT w wc wx m t P V q dom v T) (hM : Mkr w2 w.heap.size m t2) (hg : wx.grownBy w2 (some m)) : PT w wc w2 m t2 P V q dom v T := by
  have hs := hg.size
  have hl := h.lt.1
  have hz := h.sz
  exact ⟨h.pb.call hM hg, h.lt, by omega, (h.ts.kept fun b hb hb' => hg.block b hb' (by simp; omega)).widen hs, h.ok⟩
theorem alloc (h : PT w wc wx m t P V q dom v T) (o : Obj) : PT w wc (wx.alloc o) m t P V q dom v T := by
  have hz := h.sz
  exact ⟨h.pb.alloc o, h.lt, by simp; omega, (h.ts.kept fun b _ hb' => (World.grownBy_alloc wx o none).block b hb' (by simp)).widen (by simp), h.ok⟩
theorem drew (h : PT w wc wx m t P V q dom v T) : PT w wc wx.drew m t P V q dom v T :=
  ⟨h.pb.drew, h.lt, h.sz, h.ts.kept fun _ _ _ => rfl, h.ok⟩
/-- Statements that a call has made lie apart. -/
theorem row (h : PT w wc wx m t P V q dom v T) (hg : wx.grownBy w2 (some m)) {a : Option Addr} {c : Nat} {L : List St} (hr : StsX w2 wx.heap.size w2.heap.size (.slice a L.length c) L) : Pnd wc w2 v T a c L := by
  have hl := h.lt.1
  exact ⟨wx.heap.size, h.sz, hg.size, h.ts.kept fun b hb hb' => hg.block b hb' (by simp; omega), hr⟩
theorem pend (h : PT w wc wx m t P V q dom v T) (hg : wx.grownBy w2 v.ownBlock) : w2.cell? ⟨P, 0, none⟩ = some (.slice (some ⟨V, 0, none⟩) q 3) ∧ w2.cell? ⟨P, 1, none⟩ = some (.int .i64 dom) ∧ w2.cell? ⟨P, 2, none⟩ = some v ∧ w2.frozen? ⟨P, 2, none⟩ = false := by
  have h1 := h.lt
  have h2 := h.sz
  have hh := (hg.block P (by omega) fun e => by have := (h.ts.own P e.symm).1; omega).trans h.pb.hP
  exact ⟨cell_of_heap hh, cell_of_heap hh, cell_of_heap hh, unfrozen hh⟩
/-- One more is appended, and the row is put into the program. -/
theorem next (h : PT w wc wx m t P V q dom v T) {L : List St} (hO : TsX w2 wc.heap.size w2.heap.size v' (T ++ [L])) (hg : wx.grownBy w2 v.ownBlock) (_hat : v'.ownBlock = v.ownBlock ∨ v'.ownBlock = some wx.heap.size) (hok : okL q dom 20 L = true) (hc : SmL L) :
    PT w wc (w2.setCell ⟨P, 2, none⟩ v') m t P V q dom v' (T ++ [L]) := by
  obtain ⟨l1, l2, l3, l4⟩ := h.lt
  have hz := h.sz
  have hs := hg.size
  have lt : ∀ {b o}, wx.heap[b]? = some o → b < wx.heap.size := fun e => (Array.getElem?_eq_some_iff.1 e).1
  have hold : ∀ b, b < wc.heap.size → w2.heap[b]? = wx.heap[b]? := fun b hb => hg.block b (by omega) fun e => by have := (h.ts.own b e.symm).1; omega
  have hM2 : Mkr w2 w.heap.size m t := h.pb.mkr.keep (hold m l1) fun b o hb => World.cell?_of_block (hold b (by omega))
  have hb2 : Below w.heap.size w w2 := h.pb.bl.grown hg h.pb.bl.size fun k hk => by have := (h.ts.own k hk).1; omega
  have hPB : PB w w2 m t P V q dom v := h.pb.keep hM2 hb2 fun b hb => hold b (by rcases hb with rfl | rfl | rfl <;> omega)
  have hk : ∀ b, b ≠ P → (w2.setCell ⟨P, 2, none⟩ v').heap[b]? = w2.heap[b]? := fun b hb => Below.heap_setCell _ _ _ _ (by simpa using hb)
  have hP := hPB.hP
  have rP := hPB.rP
  have mR := hPB.mR
  refine ⟨⟨by simp [World.setCell, Array.getElem?_modify, hP], (hk _ (by omega)).trans hPB.hR, (hk _ (fun e => hPB.ne e.symm)).trans hPB.hV, hM2.keep (hk _ (fun e => hPB.mP e.symm)) fun b o hb => World.cell?_of_block (hk b (by omega)), hb2.setCell (by show w.heap.size ≤ P; omega) _, hPB.mR, hPB.rP, hPB.rV, hPB.mP, hPB.mV, hPB.ne⟩, h.lt, by simp; omega, ?_, fun y hy => ?_⟩
  · rw [show (w2.setCell ⟨P, 2, none⟩ v').heap.size = w2.heap.size by simp]
    exact hO.kept fun b hb _ => hk b (by omega)
  · rcases List.mem_append.1 hy with hy | hy
    · exact h.ok y hy
    · simp only [List.mem_singleton] at hy
      subst hy
      exact ⟨hok, hc⟩
end PT
end Go.Proofs.YtphlbbnmligadaaGreatDoor
