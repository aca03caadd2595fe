/- The document's parser in memory: its box; fail, need. -/
import Derived.Test.YtogopcejapklgaaGreatDoorBunQ
import Derived.Test.YtogopcejapklgaaGreatDoorBunK
import Derived.Test.YtogopcejapklgaaGreatDoorBunI
namespace Go.Proofs.YtogopcejapklgaaGreatDoor
open Go Go.RowKit

def stO (a : Option Addr) (n cap : Nat) (s : PS) : Obj := .cells #[.slice a n cap, .int .i64 s.i, .int .i64 s.c, .int .i64 s.e] 77 (0, 0)
/-- The parser's box: its tokens lie below it. -/
structure SBox (x : World) (P : Nat) (T : List Tok) (s : PS) : Prop where
  hp : ∃ a cap, x.heap[P]? = some (stO a T.length cap s) ∧ TkIn x (· < P) a T.length cap T
  lt : s.i < T.length
namespace SBox
variable {x y : World} {P : Nat} {T : List Tok} {s : PS}
theorem sz (h : SBox x P T s) : P < x.heap.size := by
  obtain ⟨a, cap, h1, -⟩ := h.hp
  exact (Array.getElem?_eq_some_iff.1 h1).1
theorem next (h : SBox x P T s) {r : Option Nat} (g : x.grownBy y r) (hr : ∀ k, r = some k → P < k) : SBox y P T s := by
  have hs := h.sz
  obtain ⟨a, cap, h1, h2⟩ := h.hp
  have hk : ∀ b, b ≤ P → y.heap[b]? = x.heap[b]? := fun b hb => g.block b (by omega) fun e => by have := hr b e.symm; omega
  exact ⟨⟨a, cap, (hk P (Nat.le_refl _)).trans h1, h2.keep fun b o hb => World.cell?_of_block (w := x) (a := ⟨b, o, none⟩) (hk b (Nat.le_of_lt hb))⟩, h.lt⟩
theorem below (h : SBox x P T s) (hb : Below x.heap.size x y) : SBox y P T s := h.next (below_grown hb none) fun _ e => by cases e
theorem alloc (h : SBox x P T s) (o : Obj) : SBox (x.alloc o) P T s := h.next (World.grownBy_alloc x o none) fun _ e => by cases e
theorem drew (h : SBox x P T s) : SBox x.drew P T s := h.next (r := none) (grown_drew (grown_refl _ _)) fun _ e => by cases e
theorem putI (h : SBox x P T s) {i : Nat} (hi : i < T.length) : SBox (x.setCell ⟨P, 1, none⟩ (.int .i64 i)) P T ⟨i, s.c, s.e⟩ := by
  obtain ⟨a, cap, h1, h2⟩ := h.hp
  refine ⟨⟨a, cap, by simp [World.setCell, Array.getElem?_modify, h1, stO], h2.keep fun b o hb => World.cell?_setCell_other _ _ _ _ (by intro e; injection e; omega)⟩, hi⟩
theorem putC (h : SBox x P T s) (c : Nat) : SBox (x.setCell ⟨P, 2, none⟩ (.int .i64 c)) P T ⟨s.i, c, s.e⟩ := by
  obtain ⟨a, cap, h1, h2⟩ := h.hp
  refine ⟨⟨a, cap, by simp [World.setCell, Array.getElem?_modify, h1, stO], h2.keep fun b o hb => World.cell?_setCell_other _ _ _ _ (by intro e; injection e; omega)⟩, h.lt⟩
theorem putE (h : SBox x P T s) (e : Int) : SBox (x.setCell ⟨P, 3, none⟩ (.int .i64 e)) P T ⟨s.i, s.c, e⟩ := by
  obtain ⟨a, cap, h1, h2⟩ := h.hp
  refine ⟨⟨a, cap, by simp [World.setCell, Array.getElem?_modify, h1, stO], h2.keep fun b o hb => World.cell?_setCell_other _ _ _ _ (by intro e; injection e; omega)⟩, h.lt⟩
/-- The box's cells. -/
theorem cells (h : SBox x P T s) : (∀ o, x.frozen? ⟨P, o, none⟩ = false) ∧ x.cell? ⟨P, 1, none⟩ = some (.int .i64 s.i) ∧ x.cell? ⟨P, 2, none⟩ = some (.int .i64 s.c) ∧ x.cell? ⟨P, 3, none⟩ = some (.int .i64 s.e) := by
  obtain ⟨a, cap, h1, -⟩ := h.hp
  unfold stO at h1
  exact ⟨fun o => unfrozen h1, by rw [cell_of_heap h1]; rfl, by rw [cell_of_heap h1]; rfl, by rw [cell_of_heap h1]; rfl⟩
/-- The token at the place. -/
theorem tok (h : SBox x P T s) : ∃ b off cap, x.cell? ⟨P, 0, none⟩ = some (.slice (some ⟨b, off, none⟩) T.length cap) ∧ b < P ∧ T.length ≤ cap ∧ cap ≤ maxLen ∧
    x.cell? ⟨b, off + s.i * 4, none⟩ = some (.int .i64 (tkP T s.i).kind) ∧ x.cell? ⟨b, off + s.i * 4 + 1, none⟩ = some (strV (tkP T s.i).text) ∧ x.cell? ⟨b, off + s.i * 4 + 2, none⟩ = some (.int .i64 (tkP T s.i).n) ∧ x.cell? ⟨b, off + s.i * 4 + 3, none⟩ = some (.int .i64 (tkP T s.i).place) := by
  obtain ⟨a, cap, h1, h2⟩ := h.hp
  have hl := h.lt
  have hle := h2.2.le
  have hmx := h2.2.mx
  obtain ⟨b, off, rfl, hb, c0, c1, c2, c3⟩ := h2.at_ s.i hl
  have ht : T[s.i] = tkP T s.i := by
    unfold tkP hdT
    rw [List.drop_eq_getElem_cons hl]
    rfl
  rw [ht] at c0 c1 c2 c3
  exact ⟨b, off, cap, by unfold stO at h1; rw [cell_of_heap h1]; rfl, hb, hle, hmx, c0, c1, c2, c3⟩
end SBox

/-- What a call of the parser's leaves: the box in a new state. -/
def PdP (x : World) (P : Nat) (T : List Tok) (s : PS) (e : Ending) (y : World) : Prop := e = .returned (.tuple #[]) ∧ SBox y P T s ∧ x.grownBy y (some P)

set_option maxHeartbeats 4000000 in
theorem rfail_any (x : World) (P : Nat) (T : List Tok) (s : PS) (er : Int) (hS : SBox x P T s) :
    Calls Tryz.prog 39 #[.pointer (some ⟨P, 0, none⟩), .int .i64 er] x (PdP x P T (failS er s)) := by
  obtain ⟨pf, p1, p2, p3⟩ := hS.cells
  have hsz := hS.sz
  by_cases he : s.e = 0
  · have hb : (s.e == 0) = true := by simpa using he
    have hfin : Hid (PdP x P T (failS er s) (.returned (.tuple #[])) (x.setCell ⟨P, 3, none⟩ (.int .i64 er))) := by
      refine ⟨rfl, ?_, grown_set _ _ _ _⟩
      unfold failS
      rw [if_pos he]
      exact hS.putE er
    clear hS he
    generalize s.e = se at *
    go_enter Tryz.func39, Tryz.ntmps39
    go_wp2_with fail
    go_end0
    exact hfin.out
  · have hb : (s.e == 0) = false := by simpa using he
    have hfin : Hid (PdP x P T (failS er s) (.returned (.tuple #[])) x) := by
      refine ⟨rfl, ?_, grown_refl _ _⟩
      rw [failS_bad he]
      exact hS
    clear hS he
    generalize s.e = se at *
    go_enter Tryz.func39, Tryz.ntmps39
    go_wp2_with fail
    go_end0
    exact hfin.out
end Go.Proofs.YtogopcejapklgaaGreatDoor
namespace Go.Proofs.YtogopcejapklgaaGreatDoor
open Go Go.RowKit

/-- The block of a token. -/
theorem res4 {W : World} {R : Nat} {c0 c1 c2 c3 : Value} {T : TypeId} {x0 x1 x2 x3 : Value} (h : W.heap[R]? = some (.cells #[x0, x1, x2, x3] T (0, 0))) :
    ((((W.setCell ⟨R, 0, none⟩ c0).setCell ⟨R, 1, none⟩ c1).setCell ⟨R, 2, none⟩ c2).setCell ⟨R, 3, none⟩ c3).heap[R]? = some (.cells #[c0, c1, c2, c3] T (0, 0)) := by
  simp [World.setCell, Array.getElem?_modify, h]
theorem four_grown (W : World) (R : Nat) (c0 c1 c2 c3 : Value) : W.grownBy ((((W.setCell ⟨R, 0, none⟩ c0).setCell ⟨R, 1, none⟩ c1).setCell ⟨R, 2, none⟩ c2).setCell ⟨R, 3, none⟩ c3) (some R) :=
  grown_trans (grown_trans (grown_trans (grown_set _ _ _ _) (grown_set _ _ _ _)) (grown_set _ _ _ _)) (grown_set _ _ _ _)
def tkO (t : Tok) : Obj := .cells #[.int .i64 t.kind, strV t.text, .int .i64 t.n, .int .i64 t.place] 41 (0, 0)
/-- A token's box has been made. -/
theorem tok_made {x : World} {P R : Nat} {T : List Tok} {s : PS} {z0 z1 z2 z3 : Value} (t : Tok) (hS : SBox x P T s) (hR : R = x.heap.size) :
    (((((x.alloc (.cells #[z0, z1, z2, z3] 41)).setCell ⟨R, 0, none⟩ (.int .i64 t.kind)).setCell ⟨R, 1, none⟩ (strV t.text)).setCell ⟨R, 2, none⟩ (.int .i64 t.n)).setCell ⟨R, 3, none⟩ (.int .i64 t.place)).heap[R]? = some (tkO t) ∧
    SBox (((((x.alloc (.cells #[z0, z1, z2, z3] 41)).setCell ⟨R, 0, none⟩ (.int .i64 t.kind)).setCell ⟨R, 1, none⟩ (strV t.text)).setCell ⟨R, 2, none⟩ (.int .i64 t.n)).setCell ⟨R, 3, none⟩ (.int .i64 t.place)) P T s ∧
    x.grownBy (((((x.alloc (.cells #[z0, z1, z2, z3] 41)).setCell ⟨R, 0, none⟩ (.int .i64 t.kind)).setCell ⟨R, 1, none⟩ (strV t.text)).setCell ⟨R, 2, none⟩ (.int .i64 t.n)).setCell ⟨R, 3, none⟩ (.int .i64 t.place)) none := by
  subst hR
  have hs := hS.sz
  exact ⟨res4 (alloc_at rfl), (hS.alloc _).next (four_grown _ _ _ _ _ _) fun k e => (by cases e; exact hs), grown_new (grown_alloc (grown_refl _ _) _) (four_grown _ _ _ _ _ _) fun n e => by cases e; exact Nat.le_refl _⟩
theorem tkO_cells {x : World} {R : Nat} {t : Tok} (h : x.heap[R]? = some (tkO t)) : R < x.heap.size ∧ x.cell? ⟨R, 0, none⟩ = some (.int .i64 t.kind) ∧ x.cell? ⟨R, 1, none⟩ = some (strV t.text) ∧ x.cell? ⟨R, 2, none⟩ = some (.int .i64 t.n) ∧ x.cell? ⟨R, 3, none⟩ = some (.int .i64 t.place) := by
  unfold tkO at h
  exact ⟨(Array.getElem?_eq_some_iff.1 h).1, by rw [cell_of_heap h]; rfl, by rw [cell_of_heap h]; rfl, by rw [cell_of_heap h]; rfl, by rw [cell_of_heap h]; rfl⟩

set_option maxRecDepth 100000 in
set_option maxHeartbeats 8000000 in
theorem rneed_any (x : World) (P : Nat) (T : List Tok) (s : PS) (w : List UInt8) (hE : Ends T) (hS : SBox x P T s) :
    Calls Tryz.prog 59 #[.pointer (some ⟨P, 0, none⟩), strV w] x (PdP x P T (needS T w s)) := by
  have hlt2 := needS_lt hE (w := w) hS.lt
  have hfin : Hid (∀ y (s' : PS), s' = needS T w s → SBox y P T s' → x.grownBy y (some P) → PdP x P T (needS T w s) (.returned (.tuple #[])) y) := hid fun y s' h1 h2 h3 => ⟨rfl, by rw [← h1]; exact h2, h3⟩
  have HS := hid hS.drew
  have hx0 : Hid (x.grownBy x.drew (some P)) := hid (grown_drew (grown_refl _ _))
  have HT := hid hlt2
  clear hlt2 hS
  go_enter Tryz.func59, Tryz.ntmps59
  obtain ⟨i0, hi0⟩ : ∃ i0 : Nat, s.i = i0 := ⟨_, rfl⟩
  obtain ⟨b, off, cap, t0, hbP, hle, hmx, k0, k1, k2, k3⟩ := HS.out.tok
  obtain ⟨pf, p1, p2, p3⟩ := HS.out.cells
  have hlt := HS.out.lt
  have hsz := HS.out.sz
  unfold maxLen at hmx
  obtain ⟨tk, htk⟩ : ∃ tk, tkP T s.i = tk := ⟨_, rfl⟩
  rw [htk] at k0 k1 k2 k3
  rw [hi0] at k0 k1 k2 k3 p1 hlt
  have Htk := hid htk
  have Hi0 := hid hi0
  clear htk hi0 p2 p3
  have q0 : (0 : Int) ≤ i0 := by omega
  have q1 : (i0 : Int) < T.length := by omega
  go_upto_region 0 with fail
  go_upto_region 0 with fail
  refine wp_region_held_drew (S := fun W => W.cell? ⟨P, 0, none⟩ = some (.slice (some ⟨b, off, none⟩) T.length cap) ∧ W.cell? ⟨P, 1, none⟩ = some (.int .i64 i0) ∧ W.cell? ⟨b, off + i0 * 4, none⟩ = some (.int .i64 tk.kind) ∧ W.cell? ⟨b, off + i0 * 4 + 1, none⟩ = some (strV tk.text) ∧ W.cell? ⟨b, off + i0 * 4 + 2, none⟩ = some (.int .i64 tk.n) ∧ W.cell? ⟨b, off + i0 * 4 + 3, none⟩ = some (.int .i64 tk.place)) (by kernel_rfl) ⟨t0, p1, k0, k1, k2, k3⟩ (fun hHeld => ?_)
  generalize World.drew x = x0 at HS hx0 t0 p1 k0 k1 k2 k3 pf hsz hHeld ⊢
  refine takeL (i := 0) (v := ?_) rfl (by kernel_rfl) (by kernel_rfl) (by kernel_rfl) (fun _ _ _ h => h) (Or.inl ⟨by rfl, ?_⟩) (by assumption) ?_
  rotate_left
  focus (intro w hSw; go_simp; try with_reducible rfl)
  try simp only [Act.put, List.setIfInBounds_toArray, List.set_cons_zero, List.set_cons_succ]
  refine takeL (i := 1) (v := ?_) rfl (by kernel_rfl) (by kernel_rfl) (by kernel_rfl) (fun _ _ _ h => h) (Or.inl ⟨by rfl, ?_⟩) (by assumption) ?_
  rotate_left
  focus (intro w hSw; go_simp; try with_reducible rfl)
  try simp only [Act.put, List.setIfInBounds_toArray, List.set_cons_zero, List.set_cons_succ]
  refine takeL (i := 2) (v := ?_) rfl (by kernel_rfl) (by kernel_rfl) (by kernel_rfl) (fun _ _ _ h => h) (Or.inl ⟨by rfl, ?_⟩) (by assumption) ?_
  rotate_left
  focus (intro w hSw; go_simp; try with_reducible rfl)
  try simp only [Act.put, List.setIfInBounds_toArray, List.set_cons_zero, List.set_cons_succ]
  refine takeL (i := 3) (v := ?_) rfl (by kernel_rfl) (by kernel_rfl) (by kernel_rfl) (fun _ _ _ h => h) (Or.inl ⟨by rfl, ?_⟩) (by assumption) ?_
  rotate_left
  focus (intro w hSw; go_simp; try with_reducible rfl)
  try simp only [Act.put, List.setIfInBounds_toArray, List.set_cons_zero, List.set_cons_succ]
  refine takeL (i := 4) (v := ?_) rfl (by kernel_rfl) (by kernel_rfl) (by kernel_rfl) (fun _ _ _ h => h) (Or.inl ⟨by rfl, ?_⟩) (by assumption) ?_
  rotate_left
  focus (intro w hSw; go_simp; try with_reducible rfl)
  try simp only [Act.put, List.setIfInBounds_toArray, List.set_cons_zero, List.set_cons_succ]
  refine takeL (i := 5) (v := ?_) rfl (by kernel_rfl) (by kernel_rfl) (by kernel_rfl) (fun _ _ _ h => h) (Or.inl ⟨by rfl, ?_⟩) (by assumption) ?_
  rotate_left
  focus (intro w hSw; go_simp; try with_reducible rfl)
  try simp only [Act.put, List.setIfInBounds_toArray, List.set_cons_zero, List.set_cons_succ]
  refine takeL (i := 6) (v := ?_) rfl (by kernel_rfl) (by kernel_rfl) (by kernel_rfl) (fun _ _ _ h => h) (Or.inl ⟨by rfl, ?_⟩) (by assumption) ?_
  rotate_left
  focus (intro w hSw; go_simp; try with_reducible rfl)
  try simp only [Act.put, List.setIfInBounds_toArray, List.set_cons_zero, List.set_cons_succ]
  refine takeL (i := 7) (v := ?_) rfl (by kernel_rfl) (by kernel_rfl) (by kernel_rfl) (fun _ _ _ h => h) (Or.inl ⟨by rfl, ?_⟩) (by assumption) ?_
  rotate_left
  focus (intro w hSw; go_simp; try with_reducible rfl)
  try simp only [Act.put, List.setIfInBounds_toArray, List.set_cons_zero, List.set_cons_succ]
  refine takeL (i := 8) (v := ?_) rfl (by kernel_rfl) (by kernel_rfl) (by kernel_rfl) (fun _ _ _ h => h) (Or.inl ⟨by rfl, ?_⟩) (by assumption) ?_
  rotate_left
  focus (intro w hSw; go_simp; try with_reducible rfl)
  try simp only [Act.put, List.setIfInBounds_toArray, List.set_cons_zero, List.set_cons_succ]
  refine takeL (i := 9) (v := ?_) rfl (by kernel_rfl) (by kernel_rfl) (by kernel_rfl) (fun _ _ _ h => h) (Or.inl ⟨by rfl, ?_⟩) (by assumption) ?_
  rotate_left
  focus (intro w hSw; go_simp; try with_reducible rfl)
  try simp only [Act.put, List.setIfInBounds_toArray, List.set_cons_zero, List.set_cons_succ]
  have hbs : b < x0.heap.size := by omega
  refine callL (i := 10) (by kernel_rfl) rfl (fun K hQ => ?_)
  go_simp
  refine hQ.out _ _ ⟨by go_simp, by go_simp, by go_simp, by go_simp, by go_simp, by go_simp⟩ (fun hHeld => ?_)
  clear hQ
  try simp only [Act.put, List.setIfInBounds_toArray, List.set_cons_zero, List.set_cons_succ]
  have hne : b ≠ x0.heap.size := by omega
  have hne2 : P ≠ x0.heap.size := by omega
  refine callL (i := 11) (by kernel_rfl) rfl (fun K hQ => ?_)
  go_simp
  refine hQ.out _ _ ⟨by go_simp, by go_simp, by go_simp, by go_simp, by go_simp, by go_simp⟩ (fun hHeld => ?_)
  clear hQ
  try simp only [Act.put, List.setIfInBounds_toArray, List.set_cons_zero, List.set_cons_succ]
  refine wpAnyH_done (by kernel_rfl) ?_ _
  clear hHeld
  generalize hW : World.alloc x0 _ = W1
  have HS1 : Hid (SBox W1 P T s) := by subst hW; exact hid (HS.out.alloc _)
  have hr : W1.heap[x0.heap.size]? = some (tkO tk) := by subst hW; exact alloc_at rfl
  have HG1 : Hid (x.grownBy W1 (some P)) := by subst hW; exact hid (grown_alloc hx0.out _)
  clear hW t0 p1 k0 k1 k2 k3 pf hne
  generalize x0.heap.size = R at *
  obtain ⟨r9, r0, r1, r2, r3⟩ := tkO_cells hr
  have Hr := hid hr
  clear HS hx0 hr hbs
  obtain ⟨pf, p1, p2, p3⟩ := HS1.out.cells
  have hsz := HS1.out.sz
  by_cases hbad : tk.kind = 0 ∨ tk.text ≠ w
  · have hF := rfail_any W1 P T s 21 HS1.out
    have hn : needS T w s = failS 21 s ∧ (failS 21 s).e ≠ 0 := by
      have h1 : (failS 21 s).e ≠ 0 := by
        unfold failS
        split
        · show (21 : Int) ≠ 0
          decide
        · assumption
      refine ⟨?_, h1⟩
      unfold needS
      rw [Htk.out]
      simp only [if_pos hbad]
      rw [if_neg h1]
    generalize failS 21 s = s2 at hF hn
    have hse : (s2.e == 0) = false := by simpa using hn.2
    have Hn := hid hn.1.symm
    have HF := hid hF
    clear hF hn
    by_cases hk : tk.kind = 0
    · have hk1 : (tk.kind == 0) = true := by simpa using hk
      clear hbad hk
      go_wp2_with (first
        | (go_at_call 39
           with_reducible refine HF.out.mono ?_
           rintro e W2 ⟨rfl, hS2, hg2⟩
           obtain ⟨vf, v1, v2, v3⟩ := hS2.cells
           have hz2 := hS2.sz
           have HS2 := hid hS2
           have HG2 := hid (grown_trans HG1.out hg2)
           clear hS2 hg2)
        | fail)
      go_end0
      exact hfin.out _ s2 Hn.out HS2.out HG2.out
    · have hk1 : (tk.kind == 0) = false := by simpa using hk
      have ht : tk.text ≠ w := hbad.resolve_left hk
      have ht1 : (tk.text == w) = false := by simpa using ht
      have ht2 : (tk.text != w) = true := by simpa using ht
      clear hbad hk ht
      go_wp2_with (first
        | (go_at_call 39
           with_reducible refine HF.out.mono ?_
           rintro e W2 ⟨rfl, hS2, hg2⟩
           obtain ⟨vf, v1, v2, v3⟩ := hS2.cells
           have hz2 := hS2.sz
           have HS2 := hid hS2
           have HG2 := hid (grown_trans HG1.out hg2)
           clear hS2 hg2)
        | fail)
      go_end0
      exact hfin.out _ s2 Hn.out HS2.out HG2.out
  · have hk : tk.kind ≠ 0 := fun h => hbad (.inl h)
    have ht : tk.text = w := Classical.byContradiction fun h => hbad (.inr h)
    subst ht
    have hn : needS T tk.text s = if s.e = 0 then nextS s else s := by
      unfold needS
      rw [Htk.out]
      simp only [if_neg hbad]
    have hk1 : (tk.kind == 0) = false := by simpa using hk
    have ht2 : (tk.text != tk.text) = false := by simp
    have ht1 : (tk.text == tk.text) = true := by simp
    clear hbad hk
    by_cases he : s.e = 0
    · rw [if_pos he] at hn
      have hi : i0 + 1 < T.length := by
        have h := HT.out
        rw [hn] at h
        show i0 + 1 < _
        rw [← Hi0.out]
        exact h
      have hse : (s.e == 0) = true := by simpa using he
      have hfin2 : Hid (PdP x P T (needS T tk.text s) (.returned (.tuple #[])) (W1.setCell ⟨P, 1, none⟩ (.int .i64 ((i0 : Int) + 1)))) := by
        have h := HS1.out.putI (i := i0 + 1) hi
        have e1 : ((i0 + 1 : Nat) : Int) = (i0 : Int) + 1 := by omega
        rw [e1] at h
        exact hfin.out _ ⟨i0 + 1, s.c, s.e⟩ (by rw [hn]; unfold nextS; rw [Hi0.out]) h (grown_trans HG1.out (grown_set _ _ _ _))
      rw [Hi0.out] at p1
      have hwi : IntKind.i64.wrap ((i0 : Int) + 1) = (i0 : Int) + 1 := IntWalk.i64_in _ (by omega)
      clear hn he
      go_wp2_with fail
      go_end0
      exact hfin2.out
    · rw [if_neg he] at hn
      have hse : (s.e == 0) = false := by simpa using he
      have Hn := hid hn.symm
      clear hn he
      go_wp2_with fail
      go_end0
      exact hfin.out _ s Hn.out HS1.out HG1.out
end Go.Proofs.YtogopcejapklgaaGreatDoor
namespace Go.Proofs.YtogopcejapklgaaGreatDoor
open Go Go.RowKit

set_option maxHeartbeats 4000000 in
theorem rword_any (k : Int) (hk : 1 ≤ k ∧ k ≤ 12) (w : World) : Calls Tryz.prog 30 #[.int .i64 k] w fun e w' => e = .returned (strV (frmN k)) ∧ Below w.heap.size w w' := by
  have h : k = 1 ∨ k = 2 ∨ k = 3 ∨ k = 4 ∨ k = 5 ∨ k = 6 ∨ k = 7 ∨ k = 8 ∨ k = 9 ∨ k = 10 ∨ k = 11 ∨ k = 12 := by omega
  clear hk
  rcases h with rfl | rfl | rfl | rfl | rfl | rfl | rfl | rfl | rfl | rfl | rfl | rfl
  all_goals
    go_enter Tryz.func30, Tryz.ntmps30
    go_wp2_with fail
    go_ret
    exact ⟨rfl, (Below.refl _ _).alloc (Nat.le_refl _) _⟩

set_option maxHeartbeats 4000000 in
theorem rpropword_any (k : Int) (hk : 1 ≤ k ∧ k ≤ 12) (w : World) : Calls Tryz.prog 31 #[.int .i64 k] w fun e w' => e = .returned (strV (shpN k)) ∧ Below w.heap.size w w' := by
  have h : k = 1 ∨ k = 2 ∨ k = 3 ∨ k = 4 ∨ k = 5 ∨ k = 6 ∨ k = 7 ∨ k = 8 ∨ k = 9 ∨ k = 10 ∨ k = 11 ∨ k = 12 := by omega
  clear hk
  rcases h with rfl | rfl | rfl | rfl | rfl | rfl | rfl | rfl | rfl | rfl | rfl | rfl
  all_goals
    go_enter Tryz.func31, Tryz.ntmps31
    go_wp2_with fail
    go_ret
    exact ⟨rfl, (Below.refl _ _).alloc (Nat.le_refl _) _⟩

theorem frm_of {k : Int} {S : List UInt8} (hk : 1 ≤ k ∧ k ≤ 12) (h : frmN k = S) (hS : S ≠ []) : kdF S = k := by
  have hf : isFrm k := by
    unfold isFrm
    have : k ≠ 3 := fun e => hS (by rw [← h, e]; rfl)
    omega
  unfold kdF
  rw [← h, (frmW_frmN hf).1]
  rfl
theorem shp_of {k : Int} {S : List UInt8} (hk : 1 ≤ k ∧ k ≤ 12) (h : shpN k = S) (hS : S ≠ []) : kdP S = k := by
  have hf : isShp k := by
    unfold isShp
    have h7 : ¬ 7 ≤ k := fun e => hS (by rw [← h]; unfold shpN; repeat' (rw [if_neg (by omega)]))
    omega
  unfold kdP
  rw [← h, shpW_shpN hf]
  rfl
theorem frm_no {S : List UInt8} (h : ∀ j : Int, 1 ≤ j → j < 13 → ¬ (frmN j = S ∧ S ≠ [])) : kdF S = 0 := by
  unfold kdF
  cases hf : frmW S with
  | none => rfl
  | some k =>
    obtain ⟨h1, h2⟩ := frmW_some hf
    exfalso
    have hk : 1 ≤ k ∧ k < 13 := by unfold isFrm at h1; omega
    refine h k hk.1 hk.2 ⟨h2, ?_⟩
    rw [← h2]
    rcases h1 with rfl | rfl | rfl | rfl | rfl | rfl | rfl | rfl | rfl | rfl | rfl <;> decide
theorem shp_no {S : List UInt8} (h : ∀ j : Int, 1 ≤ j → j < 13 → ¬ (shpN j = S ∧ S ≠ [])) : kdP S = 0 := by
  unfold kdP
  cases hf : shpW S with
  | none => rfl
  | some k =>
    obtain ⟨h1, h2⟩ := shpW_some hf
    exfalso
    have hk : 1 ≤ k ∧ k < 13 := by unfold isShp at h1; omega
    refine h k hk.1 hk.2 ⟨h2, ?_⟩
    rw [← h2]
    rcases h1 with rfl | rfl | rfl | rfl | rfl | rfl <;> decide

set_option maxRecDepth 100000 in
set_option maxHeartbeats 8000000 in
theorem rkind_frm (S : List UInt8) (w : World) : Calls Tryz.prog 58 #[strV S, .bool true] w fun e w' => e = .returned (.int .i64 (kdF S)) ∧ Below w.heap.size w w' := by
  go_enter Tryz.func58, Tryz.ntmps58
  go_upto_region 2 with fail
  go_loopw [5] (fun kv wr => ∃ k : Int, kv = .int .i64 k ∧ 1 ≤ k ∧ k ≤ 13 ∧ Hid (∀ j : Int, 1 ≤ j → j < k → ¬ (frmN j = S ∧ S ≠ [])) ∧ Hid (Below w.heap.size w wr)) (fun kv _ => (13 - intOf kv).toNat)
  case atStart => exact ⟨1, rfl, by omega, by omega, hid fun j h1 h2 => by omega, hid (Below.refl _ _)⟩
  case round =>
    rename World => x
    obtain ⟨k, rfl, hk1, hk2, hno, hB⟩ := hrel
    by_cases hgo : k ≤ 12
    · have d1 : decide (k ≤ 12) = true := decide_eq_true hgo
      have hwk : IntKind.i64.wrap (k + 1) = k + 1 := IntWalk.i64_in _ (by omega)
      have HW := hid (fun W => rword_any k ⟨hk1, hgo⟩ W)
      have Hof := hid (fun (h : frmN k = S) (hS : S ≠ []) => frm_of ⟨hk1, hgo⟩ h hS)
      obtain ⟨X, hX⟩ : ∃ X, frmN k = X := ⟨_, rfl⟩
      have Hnx : Hid (¬ (X = S ∧ S ≠ []) → ∀ j : Int, 1 ≤ j → j < k + 1 → ¬ (frmN j = S ∧ S ≠ [])) := hid fun h j h1 h2 => by
        by_cases e : j = k
        · subst e; rw [hX]; exact h
        · exact hno.out j h1 (by omega)
      rw [hX] at HW Hof
      clear hX hno
      by_cases hXS : X = S
      · subst hXS
        by_cases hS : X = []
        · subst hS
          have Hn := hid (Hnx.out fun h => h.2 rfl)
          clear Hnx Hof
          go_wp2_with (first
            | (go_at_call 30
               with_reducible refine (HW.out x).mono ?_
               rintro e x1 ⟨rfl, hb⟩
               have HB1 := hid (hB.out.trans (hb.mono hB.out.size))
               clear hb)
            | fail)
          refine ⟨⟨k + 1, rfl, by omega, by omega, Hn, HB1⟩, by simp [intOf]; omega⟩
        · have s1 : (X == []) = false := by simpa using hS
          have s2 : (X != []) = true := by simpa using hS
          have s3 : (X == X) = true := by simp
          have hr := Hof.out rfl hS
          have hr := hid hr
          clear Hnx Hof
          go_wp2_with (first
            | (go_at_call 30
               with_reducible refine (HW.out x).mono ?_
               rintro e x1 ⟨rfl, hb⟩
               have HB1 := hid (hB.out.trans (hb.mono hB.out.size))
               clear hb)
            | fail)
          go_ret
          exact ⟨by rw [hr.out]; rfl, HB1.out⟩
      · have s1 : (X == S) = false := by simpa using hXS
        have Hn := hid (Hnx.out fun h => hXS h.1)
        clear Hnx Hof hXS
        go_wp2_with (first
          | (go_at_call 30
             with_reducible refine (HW.out x).mono ?_
             rintro e x1 ⟨rfl, hb⟩
             have HB1 := hid (hB.out.trans (hb.mono hB.out.size))
             clear hb)
          | fail)
        refine ⟨⟨k + 1, rfl, by omega, by omega, Hn, HB1⟩, by simp [intOf]; omega⟩
    · obtain rfl : k = 13 := by omega
      have hr := hid (frm_no hno.out)
      clear hno
      go_wp2_with fail
      go_ret
      exact ⟨by rw [hr.out]; rfl, hB.out⟩

set_option maxRecDepth 100000 in
set_option maxHeartbeats 8000000 in
theorem rkind_shp (S : List UInt8) (w : World) : Calls Tryz.prog 58 #[strV S, .bool false] w fun e w' => e = .returned (.int .i64 (kdP S)) ∧ Below w.heap.size w w' := by
  go_enter Tryz.func58, Tryz.ntmps58
  go_upto_region 2 with fail
  go_loopw [5] (fun kv wr => ∃ k : Int, kv = .int .i64 k ∧ 1 ≤ k ∧ k ≤ 13 ∧ Hid (∀ j : Int, 1 ≤ j → j < k → ¬ (shpN j = S ∧ S ≠ [])) ∧ Hid (Below w.heap.size w wr)) (fun kv _ => (13 - intOf kv).toNat)
  case atStart => exact ⟨1, rfl, by omega, by omega, hid fun j h1 h2 => by omega, hid (Below.refl _ _)⟩
  case round =>
    rename World => x
    obtain ⟨k, rfl, hk1, hk2, hno, hB⟩ := hrel
    by_cases hgo : k ≤ 12
    · have d1 : decide (k ≤ 12) = true := decide_eq_true hgo
      have hwk : IntKind.i64.wrap (k + 1) = k + 1 := IntWalk.i64_in _ (by omega)
      have HW := hid (fun W => rpropword_any k ⟨hk1, hgo⟩ W)
      have Hof := hid (fun (h : shpN k = S) (hS : S ≠ []) => shp_of ⟨hk1, hgo⟩ h hS)
      obtain ⟨X, hX⟩ : ∃ X, shpN k = X := ⟨_, rfl⟩
      have Hnx : Hid (¬ (X = S ∧ S ≠ []) → ∀ j : Int, 1 ≤ j → j < k + 1 → ¬ (shpN j = S ∧ S ≠ [])) := hid fun h j h1 h2 => by
        by_cases e : j = k
        · subst e; rw [hX]; exact h
        · exact hno.out j h1 (by omega)
      rw [hX] at HW Hof
      clear hX hno
      by_cases hXS : X = S
      · subst hXS
        by_cases hS : X = []
        · subst hS
          have Hn := hid (Hnx.out fun h => h.2 rfl)
          clear Hnx Hof
          go_wp2_with (first
            | (go_at_call 31
               with_reducible refine (HW.out x).mono ?_
               rintro e x1 ⟨rfl, hb⟩
               have HB1 := hid (hB.out.trans (hb.mono hB.out.size))
               clear hb)
            | fail)
          refine ⟨⟨k + 1, rfl, by omega, by omega, Hn, HB1⟩, by simp [intOf]; omega⟩
        · have s1 : (X == []) = false := by simpa using hS
          have s2 : (X != []) = true := by simpa using hS
          have s3 : (X == X) = true := by simp
          have hr := Hof.out rfl hS
          have hr := hid hr
          clear Hnx Hof
          go_wp2_with (first
            | (go_at_call 31
               with_reducible refine (HW.out x).mono ?_
               rintro e x1 ⟨rfl, hb⟩
               have HB1 := hid (hB.out.trans (hb.mono hB.out.size))
               clear hb)
            | fail)
          go_ret
          exact ⟨by rw [hr.out]; rfl, HB1.out⟩
      · have s1 : (X == S) = false := by simpa using hXS
        have Hn := hid (Hnx.out fun h => hXS h.1)
        clear Hnx Hof hXS
        go_wp2_with (first
          | (go_at_call 31
             with_reducible refine (HW.out x).mono ?_
             rintro e x1 ⟨rfl, hb⟩
             have HB1 := hid (hB.out.trans (hb.mono hB.out.size))
             clear hb)
          | fail)
        refine ⟨⟨k + 1, rfl, by omega, by omega, Hn, HB1⟩, by simp [intOf]; omega⟩
    · obtain rfl : k = 13 := by omega
      have hr := hid (shp_no hno.out)
      clear hno
      go_wp2_with fail
      go_ret
      exact ⟨by rw [hr.out]; rfl, hB.out⟩

end Go.Proofs.YtogopcejapklgaaGreatDoor
namespace Go.Proofs.YtogopcejapklgaaGreatDoor
open Go Go.RowKit

theorem ints_new (W : World) (l : List Int) (T : TypeId) (hl : l.length ≤ 1000) : IntIn (W.alloc (.cells (l.map (Value.int .i64)).toArray T)) (fun b => b = W.heap.size) (some ⟨W.heap.size, 0, none⟩) l.length l.length l := by
  refine ⟨rfl, Nat.le_refl _, by unfold maxLen; omega, fun _ => ⟨_, 0, rfl, rfl, fun i hi j hj => ?_⟩⟩
  obtain rfl : j = 0 := by omega
  rw [World.cell?_alloc_at _ _ _ _ (by simp)]
  simp [hi]
def RNumP (p : Pr) (w : World) (e : Ending) (w' : World) : Prop := ∃ a cap, e = .returned (.slice a (numsP p).length cap) ∧ IntIn w' (New w w') a (numsP p).length cap (numsP p) ∧ Below w.heap.size w w'
theorem numis_kept {w w' : World} {B : Nat} {v : Value} {l : List Int} {r : Option Nat} (h : NumIs w B v l) (g : w.grownBy w' r) (hr : ∀ k, r = some k → k < B) : NumIs w' B v l := by
  refine ⟨h.1, h.2.kept g ?_⟩
  rcases hv : v.ownBlock with _ | k
  · exact .inl rfl
  · right
    intro e
    have h1 := (h.2.lt k hv).1
    have h2 := hr k e.symm
    omega
/-- The numbers' row is the call's own. -/
def RNumO (p : Pr) (w : World) (e : Ending) (w' : World) : Prop := ∃ v, e = .returned v ∧ NumIs w' w.heap.size v (numsP p) ∧ Below w.heap.size w w'
theorem rnum_post {p : Pr} {w W : World} {l : List Int} {R m : Nat} {cs : Array Value} (hl : numsP p = l) (hl2 : l.length ≤ 1000) (hb : Below w.heap.size w W) (hR : R = W.heap.size) (hm : m = l.length) (hcs : cs = (l.map (Value.int .i64)).toArray) : RNumO p w (.returned (.slice (some ⟨R, 0, none⟩) m m)) (W.alloc (.cells cs 3)) := by
  subst hl hR hm hcs
  refine ⟨_, rfl, ⟨⟨_, _, _, rfl⟩, by simp, .inr ⟨W.heap.size, (numsP p).length, _, rfl, hb.size, heap_alloc_new W _, Nat.le_refl _, by unfold maxLen; omega, by simp, ?_⟩⟩, hb.alloc hb.size _⟩
  simp only [Nat.mul_one]
  exact List.take_of_length_le (by simp)
set_option maxHeartbeats 4000000 in
theorem rnumbers_own (p : Pr) (hk : isShp p.k) (w : World) : Calls Tryz.prog 32 #[.agg #[.int .i64 p.k, .int .i64 p.t, .int .i64 p.a, .int .i64 p.n]] w (RNumO p w) := by
  obtain ⟨k, t, a, n⟩ := p
  have hB : Hid (∀ o, Below w.heap.size w (w.alloc o)) := hid fun o => (Below.refl _ _).alloc (Nat.le_refl _) _
  simp only at hk ⊢
  rcases hk with rfl | rfl | rfl | rfl | rfl | rfl
  · go_enter Tryz.func32, Tryz.ntmps32
    go_wp2_with fail
    go_ret
    exact rnum_post (p := ⟨1, t, a, n⟩) (l := [a, n]) rfl (by simp) (hB.out _) (by simp) rfl rfl
  · go_enter Tryz.func32, Tryz.ntmps32
    go_wp2_with fail
    go_ret
    exact rnum_post (p := ⟨2, t, a, n⟩) (l := [t, a, n]) rfl (by simp) (hB.out _) (by simp) rfl rfl
  · go_enter Tryz.func32, Tryz.ntmps32
    go_wp2_with fail
    go_ret
    exact rnum_post (p := ⟨3, t, a, n⟩) (l := [t, n]) rfl (by simp) (hB.out _) (by simp) rfl rfl
  · go_enter Tryz.func32, Tryz.ntmps32
    go_wp2_with fail
    go_ret
    exact rnum_post (p := ⟨4, t, a, n⟩) (l := [t]) rfl (by simp) (hB.out _) (by simp) rfl rfl
  · go_enter Tryz.func32, Tryz.ntmps32
    go_wp2_with fail
    go_ret
    exact ⟨_, rfl, NumIs.nil, hB.out _⟩
  · go_enter Tryz.func32, Tryz.ntmps32
    go_wp2_with fail
    go_ret
    exact rnum_post (p := ⟨6, t, a, n⟩) (l := [t]) rfl (by simp) (hB.out _) (by simp) rfl rfl

theorem rnumbers_any (p : Pr) (hk : isShp p.k) (w : World) : Calls Tryz.prog 32 #[.agg #[.int .i64 p.k, .int .i64 p.t, .int .i64 p.a, .int .i64 p.n]] w (RNumP p w) := by
  refine (rnumbers_own p hk w).mono ?_
  rintro e w' ⟨v, rfl, hN, hb⟩
  obtain ⟨a, cap, rfl, hI⟩ := IntIn.of_own hN.2
  exact ⟨a, cap, rfl, hI, hb⟩

/-- What of answers. -/
def ROfP (q : Pr) (w : World) (e : Ending) (w' : World) : Prop := e = .returned (.agg #[.int .i64 q.k, .int .i64 q.t, .int .i64 q.a, .int .i64 q.n]) ∧ Below w.heap.size w w'
set_option maxRecDepth 100000 in
set_option maxHeartbeats 8000000 in
theorem rof_any (k : Int) (hk : isShp k) (l : List Int) (a : Option Addr) (cap : Nat) (w : World) (hl : IntIn w (In_ w) a l.length cap l) (hn : (offs k).length ≤ l.length) :
    Calls Tryz.prog 60 #[.int .i64 k, .slice a l.length cap] w (ROfP (ofP k l) w) := by
  have hle := hl.2.le
  have hmx := hl.2.mx
  unfold maxLen at hmx
  rcases hk with rfl | rfl | rfl | rfl | rfl | rfl
  · have hn : 2 ≤ l.length := hn
    obtain ⟨b0, off0, rfl, hb0, c0⟩ := hl.at_ 0 (by omega)
    obtain ⟨b1, off1, e1, hb1, c1⟩ := hl.at_ 1 (by omega)
    simp only [Option.some.injEq, Addr.mk.injEq, and_true] at e1
    obtain ⟨rfl, rfl⟩ := e1
    rw [Nat.add_zero] at c0
    have hq : ofP 1 l = ⟨1, 0, l[0], l[1]⟩ := by
      match l, hn with
      | x :: y :: r, _ => rfl
    have hbs : b0 < w.heap.size := hb0
    generalize l[0] = x at *
    generalize l[1] = y at *
    have m0 : (0 : Int) < l.length := by omega
    have m0' : 0 < l.length := by omega
    have m1 : (1 : Int) < l.length := by omega
    have m1' : 1 < l.length := by omega
    rw [hq]
    clear hq hl
    have hB : Hid (∀ o, Below w.heap.size w (w.alloc o)) := hid fun o => (Below.refl _ _).alloc (Nat.le_refl _) _
    go_enter Tryz.func60, Tryz.ntmps60
    go_wp2_with fail
    go_region
    go_wp2_with fail
    refine bodyPost_ret (v := .agg #[.int .i64 1, .int .i64 0, .int .i64 x, .int .i64 y]) (by simp [results, Tryz.results60, go_sem]) rfl ⟨rfl, ?_⟩
    first
      | exact hB.out _
      | exact (hB.out _).drew
  · have hn : 3 ≤ l.length := hn
    obtain ⟨b0, off0, rfl, hb0, c0⟩ := hl.at_ 0 (by omega)
    obtain ⟨b1, off1, e1, hb1, c1⟩ := hl.at_ 1 (by omega)
    simp only [Option.some.injEq, Addr.mk.injEq, and_true] at e1
    obtain ⟨rfl, rfl⟩ := e1
    obtain ⟨b2, off2, e2, hb2, c2⟩ := hl.at_ 2 (by omega)
    simp only [Option.some.injEq, Addr.mk.injEq, and_true] at e2
    obtain ⟨rfl, rfl⟩ := e2
    rw [Nat.add_zero] at c0
    have hq : ofP 2 l = ⟨2, l[0], l[1], l[2]⟩ := by
      match l, hn with
      | x :: y :: z :: r, _ => rfl
    have hbs : b0 < w.heap.size := hb0
    generalize l[0] = x at *
    generalize l[1] = y at *
    generalize l[2] = z at *
    have m0 : (0 : Int) < l.length := by omega
    have m0' : 0 < l.length := by omega
    have m1 : (1 : Int) < l.length := by omega
    have m1' : 1 < l.length := by omega
    have m2 : (2 : Int) < l.length := by omega
    have m2' : 2 < l.length := by omega
    rw [hq]
    clear hq hl
    have hB : Hid (∀ o, Below w.heap.size w (w.alloc o)) := hid fun o => (Below.refl _ _).alloc (Nat.le_refl _) _
    go_enter Tryz.func60, Tryz.ntmps60
    go_wp2_with fail
    go_region
    go_wp2_with fail
    refine bodyPost_ret (v := .agg #[.int .i64 2, .int .i64 x, .int .i64 y, .int .i64 z]) (by simp [results, Tryz.results60, go_sem]) rfl ⟨rfl, ?_⟩
    first
      | exact hB.out _
      | exact (hB.out _).drew
  · have hn : 2 ≤ l.length := hn
    obtain ⟨b0, off0, rfl, hb0, c0⟩ := hl.at_ 0 (by omega)
    obtain ⟨b1, off1, e1, hb1, c1⟩ := hl.at_ 1 (by omega)
    simp only [Option.some.injEq, Addr.mk.injEq, and_true] at e1
    obtain ⟨rfl, rfl⟩ := e1
    rw [Nat.add_zero] at c0
    have hq : ofP 3 l = ⟨3, l[0], 0, l[1]⟩ := by
      match l, hn with
      | x :: y :: r, _ => rfl
    have hbs : b0 < w.heap.size := hb0
    generalize l[0] = x at *
    generalize l[1] = y at *
    have m0 : (0 : Int) < l.length := by omega
    have m0' : 0 < l.length := by omega
    have m1 : (1 : Int) < l.length := by omega
    have m1' : 1 < l.length := by omega
    rw [hq]
    clear hq hl
    have hB : Hid (∀ o, Below w.heap.size w (w.alloc o)) := hid fun o => (Below.refl _ _).alloc (Nat.le_refl _) _
    go_enter Tryz.func60, Tryz.ntmps60
    go_wp2_with fail
    go_region
    go_wp2_with fail
    refine bodyPost_ret (v := .agg #[.int .i64 3, .int .i64 x, .int .i64 0, .int .i64 y]) (by simp [results, Tryz.results60, go_sem]) rfl ⟨rfl, ?_⟩
    first
      | exact hB.out _
      | exact (hB.out _).drew
  · have hn : 1 ≤ l.length := hn
    obtain ⟨b0, off0, rfl, hb0, c0⟩ := hl.at_ 0 (by omega)
    rw [Nat.add_zero] at c0
    have hq : ofP 4 l = ⟨4, l[0], 0, 0⟩ := by
      match l, hn with
      | x :: r, _ => rfl
    have hbs : b0 < w.heap.size := hb0
    generalize l[0] = x at *
    have m0 : (0 : Int) < l.length := by omega
    have m0' : 0 < l.length := by omega
    rw [hq]
    clear hq hl
    have hB : Hid (∀ o, Below w.heap.size w (w.alloc o)) := hid fun o => (Below.refl _ _).alloc (Nat.le_refl _) _
    go_enter Tryz.func60, Tryz.ntmps60
    go_wp2_with fail
    refine bodyPost_ret (v := .agg #[.int .i64 4, .int .i64 x, .int .i64 0, .int .i64 0]) (by simp [results, Tryz.results60, go_sem]) rfl ⟨rfl, ?_⟩
    first
      | exact hB.out _
      | exact (hB.out _).drew
  · have hn : 0 ≤ l.length := hn
    have hq : ofP 5 l = ⟨5, 0, 0, 0⟩ := rfl
    rw [hq]
    clear hq hl
    have hB : Hid (∀ o, Below w.heap.size w (w.alloc o)) := hid fun o => (Below.refl _ _).alloc (Nat.le_refl _) _
    go_enter Tryz.func60, Tryz.ntmps60
    go_wp2_with fail
    refine bodyPost_ret (v := .agg #[.int .i64 5, .int .i64 0, .int .i64 0, .int .i64 0]) (by simp [results, Tryz.results60, go_sem]) rfl ⟨rfl, ?_⟩
    first
      | exact hB.out _
      | exact (hB.out _).drew
  · have hn : 1 ≤ l.length := hn
    obtain ⟨b0, off0, rfl, hb0, c0⟩ := hl.at_ 0 (by omega)
    rw [Nat.add_zero] at c0
    have hq : ofP 6 l = ⟨6, l[0], 0, 0⟩ := by
      match l, hn with
      | x :: r, _ => rfl
    have hbs : b0 < w.heap.size := hb0
    generalize l[0] = x at *
    have m0 : (0 : Int) < l.length := by omega
    have m0' : 0 < l.length := by omega
    rw [hq]
    clear hq hl
    have hB : Hid (∀ o, Below w.heap.size w (w.alloc o)) := hid fun o => (Below.refl _ _).alloc (Nat.le_refl _) _
    go_enter Tryz.func60, Tryz.ntmps60
    go_wp2_with fail
    refine bodyPost_ret (v := .agg #[.int .i64 6, .int .i64 x, .int .i64 0, .int .i64 0]) (by simp [results, Tryz.results60, go_sem]) rfl ⟨rfl, ?_⟩
    first
      | exact hB.out _
      | exact (hB.out _).drew
end Go.Proofs.YtogopcejapklgaaGreatDoor
