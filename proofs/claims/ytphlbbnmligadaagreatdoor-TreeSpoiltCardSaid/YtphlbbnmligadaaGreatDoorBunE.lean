/- The maker of programs by numbers: Pick, and expressions. -/
import Derived.Test.YtphlbbnmligadaaGreatDoorRows
import Derived.Test.YtphlbbnmligadaaGreatDoorBunM
import Derived.Deep.RegionHeld3
namespace Go.Proofs.YtphlbbnmligadaaGreatDoor
open Go.RowKit

/-- Bytes lie where a slice leads. -/
def U8s (w : World) (S : Nat → Prop) (a : Option Addr) (n cap : Nat) : Prop :=
  n ≤ cap ∧ cap ≤ maxLen ∧ ∀ i, i < n → ∃ b off, ∃ u : Nat, a = some ⟨b, off, none⟩ ∧ S b ∧ u < 256 ∧ w.cell? ⟨b, off + i, none⟩ = some (.int .u8 u)
theorem U8s.keep {w w' : World} {S : Nat → Prop} {a : Option Addr} {n cap : Nat} (h : U8s w S a n cap) (hk : ∀ b o, S b → w'.cell? ⟨b, o, none⟩ = w.cell? ⟨b, o, none⟩) : U8s w' S a n cap :=
  ⟨h.1, h.2.1, fun i hi => by
    obtain ⟨b, off, u, rfl, hb, hu, hc⟩ := h.2.2 i hi
    exact ⟨b, off, u, rfl, hb, hu, (hk _ _ hb).trans hc⟩⟩

theorem U8s.widen {w : World} {S S' : Nat → Prop} {a : Option Addr} {n cap : Nat} (h : U8s w S a n cap) (hS : ∀ b, S b → S' b) : U8s w S' a n cap :=
  ⟨h.1, h.2.1, fun i hi => by
    obtain ⟨b, off, u, rfl, hb, hu, hc⟩ := h.2.2 i hi
    exact ⟨b, off, u, rfl, hS _ hb, hu, hc⟩⟩

/-- Block m is a maker that has picked t times; its numbers lie below block B. -/
def Mkr (w : World) (B m t : Nat) : Prop :=
  B ≤ m ∧ ∃ a n cap, U8s w (· < B) a n cap ∧ w.heap[m]? = some (.cells #[.slice a n cap, .int .i64 t] 41 (0, 0))

theorem grownBy_cell {w w' : World} {m : Nat} (h : w.grownBy w' (some m)) {b o : Nat} (hb : b < w.heap.size) (hne : b ≠ m) : w'.cell? ⟨b, o, none⟩ = w.cell? ⟨b, o, none⟩ :=
  World.cell?_of_block (h.block b hb (by simpa using hne))
theorem grownBy_trans {w w1 w2 : World} {r : Option Nat} (h : w.grownBy w1 r) (k : w1.grownBy w2 r) : w.grownBy w2 r :=
  ⟨k.os.trans h.os, k.tape.trans h.tape, k.output.trans h.output, Nat.le_trans h.size k.size, fun i hi hne => (k.block i (Nat.lt_of_lt_of_le hi h.size) hne).trans (h.block i hi hne)⟩
theorem grownBy_refl (w : World) (r : Option Nat) : w.grownBy w r := ⟨rfl, rfl, rfl, Nat.le_refl _, fun _ _ _ => rfl⟩
theorem grownBy_alloc {w w1 : World} {r : Option Nat} (h : w.grownBy w1 r) (o : Obj) : w.grownBy (w1.alloc o) r := grownBy_trans h (World.grownBy_alloc w1 o r)
theorem grownBy_drew {w w1 : World} {r : Option Nat} (h : w.grownBy w1 r) : w.grownBy w1.drew r := ⟨h.os, h.tape, h.output, h.size, h.block⟩
theorem grownBy_below {w w1 w2 : World} {r : Option Nat} (h : w.grownBy w1 r) (k : Below w1.heap.size w1 w2) : w.grownBy w2 r :=
  grownBy_trans h ⟨k.os, k.tape, k.output, k.size, fun i hi _ => k.block i hi⟩
theorem grownBy_set {w w1 : World} {m : Nat} (h : w.grownBy w1 (some m)) (i : Nat) (v : Value) : w.grownBy (w1.setCell ⟨m, i, none⟩ v) (some m) :=
  grownBy_trans h ⟨rfl, rfl, rfl, by simp, fun k _ hne => Below.heap_setCell _ _ _ _ (by simpa using hne)⟩

theorem Mkr.keep {w w' : World} {B m t : Nat} (h : Mkr w B m t) (hm : w'.heap[m]? = w.heap[m]?) (hk : ∀ b o, b < B → w'.cell? ⟨b, o, none⟩ = w.cell? ⟨b, o, none⟩) : Mkr w' B m t := by
  obtain ⟨hB, a, n, cap, hu, hh⟩ := h
  exact ⟨hB, a, n, cap, hu.keep hk, hm.trans hh⟩
theorem Mkr.lt {w : World} {B m t : Nat} (h : Mkr w B m t) : m < w.heap.size := by
  obtain ⟨_, _, _, _, _, hh⟩ := h
  exact (Array.getElem?_eq_some_iff.1 hh).1
theorem Mkr.below {w w' : World} {B m t : Nat} (h : Mkr w B m t) (hb : Below w.heap.size w w') : Mkr w' B m t :=
  h.keep (hb.block m h.lt) fun _ _ hx => hb.cell (p := ⟨_, _, none⟩) (by have := h.1; have := h.lt; simp; omega)

/-- What Pick leaves. -/
def PickPost (B m t : Nat) (k : Int) (w : World) (e : Ending) (w' : World) : Prop :=
  ∃ r : Int, e = .returned (.int .i64 r) ∧ 0 ≤ r ∧ r < k ∧ Mkr w' B m (t + 1) ∧ w.grownBy w' (some m)

set_option maxHeartbeats 1000000 in
theorem pick_any (B m t : Nat) (k : Int) (w : World) (hM : Mkr w B m t) (ht : t < 4611686018427387904) (hk : 1 ≤ k) :
    Calls Tryz.prog 23 #[.pointer (some ⟨m, 0, none⟩), .int .i64 k] w (PickPost B m t k w) := by
  have hmlt := hM.lt
  obtain ⟨hB, a, n, cap, hu, hh⟩ := hM
  have f0 : w.cell? ⟨m, 0, none⟩ = some (.slice a n cap) := by simp [World.cell?, hh]
  have f1 : w.cell? ⟨m, 1, none⟩ = some (.int .i64 t) := by simp [World.cell?, hh]
  have f2 : w.frozen? ⟨m, 1, none⟩ = false := by simp [World.frozen?, hh]
  have hmx := hu.2.1
  have hn := hu.1
  unfold maxLen at hmx
  have HH : Hid ((w.setCell ⟨m, 1, none⟩ (.int .i64 ((t : Int) + 1))).heap[m]? = some (.cells #[.slice a n cap, .int .i64 ((t : Int) + 1)] 41 (0, 0))) := by
    show _ = _
    simp [World.setCell, Array.getElem?_modify, hh]
  have HG : Hid (w.grownBy (w.setCell ⟨m, 1, none⟩ (.int .i64 ((t : Int) + 1))) (some m)) := grownBy_set (grownBy_refl _ _) _ _
  clear hh
  go_enter Tryz.func23, Tryz.ntmps23
  go_wp2_with fail
  generalize hW : World.setCell w _ _ = W1 at *
  clear hW f0 f1 f2
  have g0 : W1.cell? ⟨m, 0, none⟩ = some (.slice a n cap) := by simp [World.cell?, HH.out]
  have g1 : W1.cell? ⟨m, 1, none⟩ = some (.int .i64 ((t : Int) + 1)) := by simp [World.cell?, HH.out]
  have hu1 : U8s W1 (· < B) a n cap := hu.keep fun b o hb => grownBy_cell HG.out (by omega) (by omega)
  have HM : Hid (Mkr W1 B m (t + 1)) := ⟨hB, a, n, cap, hu1, by simpa using HH.out⟩
  have hmW : m < W1.heap.size := by have := HG.out.size; omega
  by_cases hlt : t + 1 ≤ n
  · obtain ⟨b, off, u, rfl, hb, hu0, hc⟩ := hu1.2.2 t (by omega)
    have hbW : b < W1.heap.size := by omega
    have q1 : IntKind.i64.wrap (t : Int) = t := IntWalk.i64_in _ (by omega)
    have q4 : (0 : Int) ≤ t := by omega
    have q5 : (t : Int) < n := by omega
    have q6 : t < n := by omega
    have q2 : ¬ ((n : Int) < (t : Int) + 1) := by omega
    have q3 : k ≠ 0 := by omega
    clear hu1 hu
    go_region_held3 (Kp W1) (first | assumption | exact Kp.start _) (fail)
    go_wp2_with fail
    go_region_held3 (Kp W1) (first | assumption | exact Kp.of ((Below.refl _ _).drew.drew)) (fail)
    go_wp2_with fail
    go_ret
    refine ⟨_, rfl, ?_, ?_, HM.out.below (Below.refl _ _).drew.drew, grownBy_drew (grownBy_drew HG.out)⟩
    · rw [IntWalk.i64_in _ (by omega), Int.tmod_eq_emod_of_nonneg (by omega)]; exact Int.emod_nonneg _ (by omega)
    · rw [IntWalk.i64_in _ (by omega), Int.tmod_eq_emod_of_nonneg (by omega)]; exact Int.emod_lt_of_pos _ (by omega)
  · have q2 : (n : Int) < (t : Int) + 1 := by omega
    clear hu1 hu
    go_region_held3 (Kp W1) (first | assumption | exact Kp.start _) (fail)
    go_wp2_with fail
    go_ret
    exact ⟨0, rfl, by omega, by omega, HM.out.below (Below.refl _ _).drew, grownBy_drew HG.out⟩

theorem num_any (n : Int) (w : World) : Calls Tryz.prog 21 #[.int .i64 n] w fun e w' => e = .returned (.agg #[.int .i64 1, .int .i64 n, .int .u8 0, .slice none 0 0]) ∧ Below w.heap.size w w' := by
  go_enter Tryz.func21, Tryz.ntmps21
  go_wp2
  exact bodyPost_ret (v := .agg #[.int .i64 1, .int .i64 n, .int .u8 0, .slice none 0 0]) (by simp [results, Tryz.results21, go_sem]) rfl ⟨rfl, (Below.refl _ _).alloc (Nat.le_refl _) _⟩

theorem grownBy_new {w w1 : World} {r : Option Nat} (h : w.grownBy w1 r) {b : Nat} (hb : w.heap.size ≤ b) (i : Nat) (v : Value) : w.grownBy (w1.setCell ⟨b, i, none⟩ v) r :=
  ⟨h.os, h.tape, h.output, by simpa using h.size, fun k hk hne => (Below.heap_setCell _ _ _ _ (by simp; omega)).trans (h.block k hk hne)⟩
theorem Mkr.set {w : World} {B m t : Nat} (h : Mkr w B m t) {b : Nat} (hb : m < b) (i : Nat) (v : Value) : Mkr (w.setCell ⟨b, i, none⟩ v) B m t :=
  h.keep (Below.heap_setCell _ _ _ _ (by simp; omega)) fun b' o hb' => World.cell?_of_block (Below.heap_setCell _ _ _ _ (by have := h.1; simp; omega))
theorem Mkr.alloc {w : World} {B m t : Nat} (h : Mkr w B m t) (o : Obj) : Mkr (w.alloc o) B m t := h.below ((Below.refl _ _).alloc (Nat.le_refl _) _)

/-- The four cells of a new block are written. -/
def set4 (w : World) (b : Nat) (u0 u1 u2 u3 : Value) : World := (((w.setCell ⟨b, 0, none⟩ u0).setCell ⟨b, 1, none⟩ u1).setCell ⟨b, 2, none⟩ u2).setCell ⟨b, 3, none⟩ u3
theorem set4_grown {w w1 : World} {r : Option Nat} (h : w.grownBy w1 r) {b : Nat} (hb : w.heap.size ≤ b) (u0 u1 u2 u3 : Value) : w.grownBy (set4 w1 b u0 u1 u2 u3) r :=
  grownBy_new (grownBy_new (grownBy_new (grownBy_new h hb _ _) hb _ _) hb _ _) hb _ _
theorem set4_mkr {w : World} {B m t : Nat} (h : Mkr w B m t) {b : Nat} (hb : m < b) (u0 u1 u2 u3 : Value) : Mkr (set4 w b u0 u1 u2 u3) B m t := (((h.set hb _ _).set hb _ _).set hb _ _).set hb _ _
theorem set4_cell (w : World) (b : Nat) (u0 u1 u2 u3 : Value) (b' o : Nat) (h : b' ≠ b) : (set4 w b u0 u1 u2 u3).cell? ⟨b', o, none⟩ = w.cell? ⟨b', o, none⟩ := by
  unfold set4
  iterate 4 rw [World.cell?_setCell_other _ _ _ _ (by intro e; injection e; omega)]
theorem set4_at {w : World} {b : Nat} {c : Array Value} {T : TypeId} (h : w.heap[b]? = some (.cells c T (0, 0))) (hc : c.size = 4) (u0 u1 u2 u3 : Value) : (set4 w b u0 u1 u2 u3).heap[b]? = some (.cells #[u0, u1, u2, u3] T (0, 0)) := by
  obtain ⟨l⟩ := c
  match l, hc with
  | [a0, a1, a2, a3], _ => simp [set4, World.setCell, Array.getElem?_modify, h]
theorem cell_of_heap {w : World} {b j : Nat} {c : Array Value} {T : TypeId} (h : w.heap[b]? = some (.cells c T (0, 0))) : w.cell? ⟨b, j, none⟩ = c[j]? := by simp [World.cell?, h]
theorem unfrozen {w : World} {b j : Nat} {c : Array Value} {T : TypeId} (h : w.heap[b]? = some (.cells c T (0, 0))) : w.frozen? ⟨b, j, none⟩ = false := by simp [World.frozen?, h]
theorem set4_size (w : World) (b : Nat) (u0 u1 u2 u3 : Value) : (set4 w b u0 u1 u2 u3).heap.size = w.heap.size := by simp [set4]

/-- What the maker's Expr leaves: an expression that may be, of so much depth, in new memory. -/
def MadePost (B m t : Nat) (dom : Int) (deep : Nat) (w : World) (e : Ending) (w' : World) : Prop :=
  ∃ (u0 u1 u2 u3 : Value) (x : Ex) (t' : Nat), e = .returned (.agg #[u0, u1, u2, u3]) ∧ ExIn w' (fun b => w.heap.size ≤ b ∧ b < w'.heap.size) [u0, u1, u2, u3] x ∧ x.fit dom (deep + 1) = true ∧ Mkr w' B m t' ∧ t' ≤ t + 4 ^ (deep + 1) ∧ w.grownBy w' (some m)

theorem fit_num {dom n : Int} {deep : Nat} (h0 : 0 ≤ n) (h1 : n < dom) : (Ex.mk 1 n 0 []).fit dom (deep + 1) = true := by simp [Ex.fit, h0, h1]
theorem fit_reg {dom n : Int} {deep : Nat} (h0 : 0 ≤ n) (h1 : n < 4) : (Ex.mk 2 n 0 []).fit dom (deep + 1) = true := by simp [Ex.fit, h0, h1]
theorem fit_two {dom o : Int} {deep : Nat} {x y : Ex} (ho : isOp o = true) (hx : x.fit dom deep = true) (hy : y.fit dom deep = true) : (Ex.mk 3 0 o [x, y]).fit dom (deep + 1) = true := by simp [Ex.fit, ho, hx, hy]

/-- The sign number i of those that the maker picks from. -/
def opAt (i : Nat) (h : i < 8) : Int := ((⟨#[43, 45, 42, 60, 38, 124, 61, 33]⟩ : ByteArray)[i]'h).toNat
theorem isOp_at : ∀ i (h : i < 8), isOp (opAt i h) = true := by decide
theorem wf_at : ∀ i (h : i < 8), (Lit.int .u8 (opAt i h)).wf = true := by decide

theorem made_long {B m t t4 : Nat} {dom o : Int} {deep : Nat} {w w2 w3 w4 : World} {u0 u1 u2 u3 v0 v1 v2 v3 : Value} {x y : Ex} (ho : isOp o = true) (wo : (Lit.int .u8 o).wf = true) (hmw : m < w.heap.size) (h2 : w.heap.size < w2.heap.size) (h3 : w2.heap.size ≤ w3.heap.size)
    (hx : ExIn w3 (fun b => w2.heap.size ≤ b ∧ b < w3.heap.size) [u0, u1, u2, u3] x) (hy : ExIn w4 (fun b => w3.heap.size ≤ b ∧ b < w4.heap.size) [v0, v1, v2, v3] y) (hk : w3.grownBy w4 (some m))
    (hfx : x.fit dom (deep + 1) = true) (hfy : y.fit dom (deep + 1) = true) (hM : Mkr w4 B m t4) (ht : t4 ≤ t + 4 ^ (deep + 1 + 1)) (hg : w.grownBy w4 (some m)) :
    MadePost B m t dom (deep + 1) w (.returned (.agg #[.int .i64 3, .int .i64 0, .int .u8 o, .slice (some ⟨w4.heap.size, 0, none⟩) 2 2]))
      ((set4 w4 w.heap.size (.int .i64 3) (.int .i64 0) (.int .u8 o) (.slice (some ⟨w4.heap.size, 0, none⟩) 2 2)).alloc (.cells #[u0, u1, u2, u3, v0, v1, v2, v3] 44)) := by
  have hz := hk.size
  refine ⟨_, _, _, _, .mk 3 0 o [x, y], t4, rfl, ?_, fit_two ho hfx hfy, (set4_mkr hM (by omega) _ _ _ _).alloc _, ht, grownBy_alloc (set4_grown hg (Nat.le_refl _) _ _ _ _) _⟩
  have keep4 : ∀ b o', b < w4.heap.size → b ≠ w.heap.size → ((set4 w4 w.heap.size (.int .i64 3) (.int .i64 0) (.int .u8 o) (.slice (some ⟨w4.heap.size, 0, none⟩) 2 2)).alloc (.cells #[u0, u1, u2, u3, v0, v1, v2, v3] 44)).cell? ⟨b, o', none⟩ = w4.cell? ⟨b, o', none⟩ := by
    intro b o' hb hne
    rw [World.cell?_alloc_lt _ _ _ (by simp [set4_size]; omega), set4_cell _ _ _ _ _ _ _ _ hne]
  refine ExIn.mk2 (u0 := u0) (u1 := u1) (u2 := u2) (u3 := u3) (v0 := v0) (v1 := v1) (v2 := v2) (v3 := v3) (by decide) (by decide) wo ?_ (fun j => ?_) ?_ ?_
  · simp [set4_size]; omega
  · have := World.cell?_alloc_new (set4 w4 w.heap.size (.int .i64 3) (.int .i64 0) (.int .u8 o) (.slice (some ⟨w4.heap.size, 0, none⟩) 2 2)) #[u0, u1, u2, u3, v0, v1, v2, v3] 44 j
    rw [set4_size] at this
    exact this
  · refine (hx.keep fun b o' hb => (keep4 b o' (by omega) (by omega)).trans (grownBy_cell hk (by omega) (by omega))).widen fun b hb => ?_
    simp [set4_size]; omega
  · refine (hy.keep fun b o' hb => keep4 b o' (by omega) (by omega)).widen fun b hb => ?_
    simp [set4_size]; omega

end Go.Proofs.YtphlbbnmligadaaGreatDoor
namespace Go.Proofs.YtphlbbnmligadaaGreatDoor
open Go.RowKit

/-- The contract of the maker's Expr at one depth. -/
def MadeAt (B m : Nat) (dom : Int) (deep : Nat) : Prop := ∀ (di : Int) (t : Nat) (w : World), di = deep → Mkr w B m t → t + 4 ^ (deep + 1) < 4611686018427387904 →
    Calls Tryz.prog 15 #[.pointer (some ⟨m, 0, none⟩), .int .i64 di, .int .i64 dom] w (MadePost B m t dom deep w)

set_option maxHeartbeats 1000000 in
theorem made_step (B m : Nat) (dom : Int) (hdom : 1 ≤ dom) (hdom2 : dom ≤ 9223372036854775807) (deep : Nat) (ih : ∀ d, deep = d + 1 → MadeAt B m dom d) : MadeAt B m dom deep := by
  intro di t w hdi hM ht
  have hp : 4 ≤ 4 ^ (deep + 1) := by rw [Nat.pow_succ]; have := Nat.pow_pos (n := deep) (show 0 < 4 by omega); omega
  have Hdi := hid hdi
  have Hih := hid ih
  have hdi0 : 0 ≤ di := by omega
  clear hdi ih
  have hmlt := hM.lt
  go_enter Tryz.func15, Tryz.ntmps15
  go_wp2_with fail
  refine (pick_any B m t 5 _ (hM.alloc _) (by omega) (by omega)).mono ?_
  rintro e w1 ⟨k, rfl, hk0, hk5, hM1, hg1⟩
  have hR := (hg1.block w.heap.size (by simp) (by simp; omega)).trans (heap_alloc_new w _)
  have hz : w.heap.size < w1.heap.size := by have := hg1.size; simp at this; omega
  have hg : w.grownBy w1 (some m) := grownBy_trans (World.grownBy_alloc w _ _) hg1
  clear hg1 hM
  have hcase : (k < 2) ∨ (2 ≤ k ∧ di < 1) ∨ (2 ≤ k ∧ 1 ≤ di ∧ k < 4) ∨ (4 ≤ k ∧ 1 ≤ di) := by omega
  have short : ∀ n : Int, 0 ≤ n → n < dom → ∀ (w2 w3 : World), Mkr w2 B m (t + 1 + 1) → w1.grownBy w2 (some m) → Below w2.heap.size w2 w3 →
      MadePost B m t dom deep w (.returned (.agg #[.int .i64 1, .int .i64 n, .int .u8 0, .slice none 0 0])) (set4 w3 w.heap.size (.int .i64 1) (.int .i64 n) (.int .u8 0) (.slice none 0 0)) := by
    intro n hn0 hn1 w2 w3 hM2 hg2 hb3
    exact ⟨_, _, _, _, _, t + 1 + 1, rfl, ExIn.leaf _ _ _ _ _ (by decide) (WalkArith.wf_i64 (by omega)) (by decide), fit_num hn0 hn1, set4_mkr (hM2.below hb3) (by omega) _ _ _ _, by omega,
      set4_grown (grownBy_trans hg (grownBy_below hg2 hb3)) (Nat.le_refl _) _ _ _ _⟩
  have shortR : ∀ n : Int, 0 ≤ n → n < 4 → ∀ (w2 : World), Mkr w2 B m (t + 1 + 1) → w1.grownBy w2 (some m) →
      MadePost B m t dom deep w (.returned (.agg #[.int .i64 2, .int .i64 n, .int .u8 0, .slice none 0 0])) (set4 w2 w.heap.size (.int .i64 2) (.int .i64 n) (.int .u8 0) (.slice none 0 0)) := by
    intro n hn0 hn1 w2 hM2 hg2
    exact ⟨_, _, _, _, _, t + 1 + 1, rfl, ExIn.leaf _ _ _ _ _ (by decide) (WalkArith.wf_i64 (by omega)) (by decide), fit_reg hn0 hn1, set4_mkr hM2 (by omega) _ _ _ _, by omega,
      set4_grown (grownBy_trans hg hg2) (Nat.le_refl _) _ _ _ _⟩
  rcases hcase with h2 | ⟨h2, h1⟩ | ⟨h2, h1, h4⟩ | ⟨h4, h1⟩
  · go_wp2_with fail
    refine (pick_any B m (t + 1) dom _ hM1 (by omega) (by omega)).mono ?_
    rintro e w2 ⟨n, rfl, hn0, hn1, hM2, hg2⟩
    go_wp2_with fail
    refine (num_any n _).mono ?_
    rintro e w3 ⟨rfl, hb3⟩
    have hR3 := (hb3.block w.heap.size (by have := hg2.size; omega)).trans ((hg2.block w.heap.size hz (by simp; omega)).trans hR)
    have fin := hid (short n hn0 hn1 w2 w3 hM2 hg2 hb3)
    clear short shortR hR
    have f0 : w3.cell? ⟨w.heap.size, 0, none⟩ = some (.int .i64 0) := by simp [World.cell?, hR3]
    have f1 : w3.cell? ⟨w.heap.size, 1, none⟩ = some (.int .i64 0) := by simp [World.cell?, hR3]
    have f2 : w3.cell? ⟨w.heap.size, 2, none⟩ = some (.int .u8 0) := by simp [World.cell?, hR3]
    have f3 : w3.cell? ⟨w.heap.size, 3, none⟩ = some (.slice none 0 0) := by simp [World.cell?, hR3]
    have z0 : ∀ j, w3.frozen? ⟨w.heap.size, j, none⟩ = false := fun j => by simp [World.frozen?, hR3]
    have hR4 := set4_at hR3 rfl (.int .i64 1) (.int .i64 n) (.int .u8 0) (.slice none 0 0)
    have g0 := hid (cell_of_heap (j := 0) hR4)
    have g1 := hid (cell_of_heap (j := 1) hR4)
    have g2 := hid (cell_of_heap (j := 2) hR4)
    have g3 := hid (cell_of_heap (j := 3) hR4)
    clear hR3 hM1 hM2 hg hb3 hg2 Hih hR4
    go_wp2_with fail
    refine bodyPost_ret (v := .agg #[.int .i64 1, .int .i64 n, .int .u8 0, .slice none 0 0]) ?_ rfl fin.out
    have g0 := g0.out
    have g1 := g1.out
    have g2 := g2.out
    have g3 := g3.out
    unfold set4 at g0 g1 g2 g3
    simp [results, Tryz.results15, go_sem, g0, g1, g2, g3]
  · go_wp2_with fail
    refine (pick_any B m (t + 1) dom _ hM1 (by omega) (by omega)).mono ?_
    rintro e w2 ⟨n, rfl, hn0, hn1, hM2, hg2⟩
    go_wp2_with fail
    refine (num_any n _).mono ?_
    rintro e w3 ⟨rfl, hb3⟩
    have hR3 := (hb3.block w.heap.size (by have := hg2.size; omega)).trans ((hg2.block w.heap.size hz (by simp; omega)).trans hR)
    have fin := hid (short n hn0 hn1 w2 w3 hM2 hg2 hb3)
    clear short shortR hR
    have f0 : w3.cell? ⟨w.heap.size, 0, none⟩ = some (.int .i64 0) := by simp [World.cell?, hR3]
    have f1 : w3.cell? ⟨w.heap.size, 1, none⟩ = some (.int .i64 0) := by simp [World.cell?, hR3]
    have f2 : w3.cell? ⟨w.heap.size, 2, none⟩ = some (.int .u8 0) := by simp [World.cell?, hR3]
    have f3 : w3.cell? ⟨w.heap.size, 3, none⟩ = some (.slice none 0 0) := by simp [World.cell?, hR3]
    have z0 : ∀ j, w3.frozen? ⟨w.heap.size, j, none⟩ = false := fun j => by simp [World.frozen?, hR3]
    have hR4 := set4_at hR3 rfl (.int .i64 1) (.int .i64 n) (.int .u8 0) (.slice none 0 0)
    have g0 := hid (cell_of_heap (j := 0) hR4)
    have g1 := hid (cell_of_heap (j := 1) hR4)
    have g2 := hid (cell_of_heap (j := 2) hR4)
    have g3 := hid (cell_of_heap (j := 3) hR4)
    clear hR3 hM1 hM2 hg hb3 hg2 Hih hR4
    go_wp2_with fail
    refine bodyPost_ret (v := .agg #[.int .i64 1, .int .i64 n, .int .u8 0, .slice none 0 0]) ?_ rfl fin.out
    have g0 := g0.out
    have g1 := g1.out
    have g2 := g2.out
    have g3 := g3.out
    unfold set4 at g0 g1 g2 g3
    simp [results, Tryz.results15, go_sem, g0, g1, g2, g3]
  · go_wp2_with fail
    refine (pick_any B m (t + 1) 2 _ hM1 (by omega) (by omega)).mono ?_
    rintro e w2 ⟨n, rfl, hn0, hn1, hM2, hg2⟩
    have hR3 := (hg2.block w.heap.size hz (by simp; omega)).trans hR
    have fin := hid (shortR n hn0 (by omega) w2 hM2 hg2)
    clear short shortR hR
    have f0 : w2.cell? ⟨w.heap.size, 0, none⟩ = some (.int .i64 0) := by simp [World.cell?, hR3]
    have f1 : w2.cell? ⟨w.heap.size, 1, none⟩ = some (.int .i64 0) := by simp [World.cell?, hR3]
    have f2 : w2.cell? ⟨w.heap.size, 2, none⟩ = some (.int .u8 0) := by simp [World.cell?, hR3]
    have f3 : w2.cell? ⟨w.heap.size, 3, none⟩ = some (.slice none 0 0) := by simp [World.cell?, hR3]
    have z0 : ∀ j, w2.frozen? ⟨w.heap.size, j, none⟩ = false := fun j => by simp [World.frozen?, hR3]
    have hR4 := set4_at hR3 rfl (.int .i64 2) (.int .i64 n) (.int .u8 0) (.slice none 0 0)
    have g0 := hid (cell_of_heap (j := 0) hR4)
    have g1 := hid (cell_of_heap (j := 1) hR4)
    have g2 := hid (cell_of_heap (j := 2) hR4)
    have g3 := hid (cell_of_heap (j := 3) hR4)
    clear hR3 hM1 hM2 hg hg2 Hih hR4
    go_wp2_with fail
    refine bodyPost_ret (v := .agg #[.int .i64 2, .int .i64 n, .int .u8 0, .slice none 0 0]) ?_ rfl fin.out
    have g0 := g0.out
    have g1 := g1.out
    have g2 := g2.out
    have g3 := g3.out
    unfold set4 at g0 g1 g2 g3
    simp [results, Tryz.results15, go_sem, g0, g1, g2, g3]
  · obtain ⟨d', rfl⟩ : ∃ d', deep = d' + 1 := ⟨deep - 1, by have := Hdi.out; omega⟩
    have hA := Hih.out d' rfl
    have hd : di - 1 = (d' : Int) := by have := Hdi.out; omega
    have hp2 : 4 ^ (d' + 1 + 1) = 4 * 4 ^ (d' + 1) := by rw [Nat.pow_succ, Nat.mul_comm]
    have hp1 : 4 ≤ 4 ^ (d' + 1) := by rw [Nat.pow_succ]; have := Nat.pow_pos (n := d') (show 0 < 4 by omega); omega
    have Hd := hid hd
    have HA := hid hA
    have hq : IntKind.i64.wrap (di - 1) = di - 1 := IntWalk.i64_in _ (by have := Hdi.out; have := Nat.lt_pow_self (n := d' + 1 + 1) (show 1 < 4 by omega); omega)
    clear hA hd Hih short shortR hdi0
    have HP2 := hid hp2
    clear hp2
    go_wp2_with fail
    go_region_with (first
      | (go_at_call 23; (refine (pick_any B m (t + 1) 8 _ (hM1.below (Below.refl _ _).drew) (by omega) (by omega)).mono ?_); rintro e w2 ⟨r, rfl, hr0, hr8, hM2, hg2⟩)
      | (go_at_call 15; (refine (HA.out (di - 1) (t + 1 + 1) _ Hd.out hM2 (by have := HP2.out; omega)).mono ?_); rintro e w3 ⟨u0, u1, u2, u3, x, t3, rfl, hx, hfx, hM3, ht3, hg3⟩)
      | (go_at_call 15; (refine (HA.out (di - 1) t3 _ Hd.out hM3 (by have := HP2.out; omega)).mono ?_); rintro e w4 ⟨v0, v1, v2, v3, y, t4, rfl, hy, hfy, hM4, ht4, hg4⟩;
         have hgA := hid (grownBy_trans (grownBy_drew hg) (grownBy_trans (w := w1.drew) hg2 (grownBy_trans hg3 hg4)));
         have hR4 := (hg4.block w.heap.size (by have := hg3.size; have := hg2.size; simp at this; omega) (by simp; omega)).trans ((hg3.block w.heap.size (by have := hg2.size; simp at this; omega) (by simp; omega)).trans ((hg2.block w.heap.size (by simp; omega) (by simp; omega)).trans hR));
         have z4 : w.heap.size < w4.heap.size := (by have := hg4.size; have := hg3.size; have := hg2.size; simp at this; omega);
         have f0 : w4.cell? ⟨w.heap.size, 0, none⟩ = some (.int .i64 0) := cell_of_heap hR4;
         have f1 : w4.cell? ⟨w.heap.size, 1, none⟩ = some (.int .i64 0) := cell_of_heap hR4;
         have f2 : w4.cell? ⟨w.heap.size, 2, none⟩ = some (.int .u8 0) := cell_of_heap hR4;
         have f3 : w4.cell? ⟨w.heap.size, 3, none⟩ = some (.slice none 0 0) := cell_of_heap hR4;
         have y0 : ∀ j, w4.frozen? ⟨w.heap.size, j, none⟩ = false := fun j => unfrozen hR4;
         have HR4 := hid hR4; clear hR4))
    go_wp2_with fail
    all_goals
      have hR5 := set4_at HR4.out rfl (.int .i64 3) (.int .i64 0) (.int .u8 (opAt r.toNat (by omega))) (.slice (some ⟨w4.heap.size, 0, none⟩) 2 2)
      refine bodyPost_ret (v := .agg #[.int .i64 3, .int .i64 0, .int .u8 (opAt r.toNat (by omega)), .slice (some ⟨w4.heap.size, 0, none⟩) 2 2]) ?_ rfl ?_
      · have g0 := cell_of_heap (j := 0) hR5
        have g1 := cell_of_heap (j := 1) hR5
        have g2 := cell_of_heap (j := 2) hR5
        have g3 := cell_of_heap (j := 3) hR5
        unfold set4 opAt at g0 g1 g2 g3
        unfold opAt
        simp [results, Tryz.results15, go_sem, z4, g0, g1, g2, g3]
      · refine made_long (w3 := w3) (x := x) (y := y) (isOp_at _ _) (wf_at _ _) (by omega) (by have := hg2.size; simp at this; omega) hg3.size hx hy hg4 hfx hfy hM4 (by have := HP2.out; omega) hgA.out
theorem made_any (B m : Nat) (dom : Int) (hdom : 1 ≤ dom) (hdom2 : dom ≤ 9223372036854775807) : ∀ deep, MadeAt B m dom deep
  | 0 => made_step B m dom hdom hdom2 0 fun d h => absurd h (by omega)
  | deep + 1 => made_step B m dom hdom hdom2 (deep + 1) fun d h => by
    have : d = deep := by omega
    subst this
    exact made_any B m dom hdom hdom2 d
end Go.Proofs.YtphlbbnmligadaaGreatDoor
