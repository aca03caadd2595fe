/- The document's formula. -/
import Derived.Test.YtogopcejapklgaaGreatDoorBunS
import Derived.Test.YtogopcejapklgaaGreatDoorBunQ
import Derived.Test.YtogopcejapklgaaGreatDoorBunC
import Derived.Test.YtogopcejapklgaaGreatDoorBunJ
import Derived.Test.YtogopcejapklgaaGreatDoorBunY
namespace Go.Proofs.YtogopcejapklgaaGreatDoor
open Go Go.RowKit

/-- In formula: the parser's box, the box of the answer. -/
structure FIn (w x : World) (P : Nat) (T : List Tok) (s : PS) : Prop where
  gr : w.grownBy x (some P)
  bx : SBox x P T s
  rb : x.heap[w.heap.size]? = some (fmO 0 Pr.zero (.slice none 0 0))
  lt : P < w.heap.size
namespace FIn
variable {w x y : World} {P : Nat} {T : List Tok} {s s' : PS}
theorem szR (h : FIn w x P T s) : w.heap.size < x.heap.size := (Array.getElem?_eq_some_iff.1 h.rb).1
theorem next (h : FIn w x P T s) (hS : SBox y P T s') (g : x.grownBy y (some P)) : FIn w y P T s' :=
  ⟨grown_trans h.gr g, hS, (g.block _ h.szR (by have := h.lt; simp; omega)).trans h.rb, h.lt⟩
theorem more (h : FIn w x P T s) {r : Option Nat} (g : x.grownBy y r) (hr : ∀ k, r = some k → w.heap.size < k) : FIn w y P T s :=
  ⟨grown_new h.gr g fun k e => by have := hr k e; omega, h.bx.next g fun k e => by have := hr k e; have := h.lt; omega, (g.block _ h.szR fun e => by have := hr _ e.symm; omega).trans h.rb, h.lt⟩
theorem alloc (h : FIn w x P T s) (o : Obj) : FIn w (x.alloc o) P T s := h.more (World.grownBy_alloc x o none) fun _ e => by cases e
theorem drew (h : FIn w x P T s) : FIn w x.drew P T s := h.more (r := none) (grown_drew (grown_refl _ _)) fun _ e => by cases e
theorem below (h : FIn w x P T s) (hb : Below x.heap.size x y) : FIn w y P T s := h.more (below_grown hb none) fun _ e => by cases e
end FIn
/-- What formula leaves. -/
def RFormP (x : World) (P : Nat) (T : List Tok) (d : Nat) (s : PS) (e : Ending) (y : World) : Prop :=
  ∃ a cap, e = .returned (.agg #[.int .i64 (fmS T d s).1.kind, .int .i64 (fmS T d s).1.prop.k, .int .i64 (fmS T d s).1.prop.t, .int .i64 (fmS T d s).1.prop.a, .int .i64 (fmS T d s).1.prop.n, .slice a (fmS T d s).1.kids.length cap]) ∧
    FmIn y (New x y) (fmC (fmS T d s).1.kind (fmS T d s).1.prop a (fmS T d s).1.kids.length cap) (fmS T d s).1 ∧ SBox y P T (fmS T d s).2 ∧ x.grownBy y (some P)
def RFormAt (T : List Tok) (d : Nat) : Prop := ∀ (x : World) (P : Nat) (s : PS) (wi : Int), SBox x P T s → s.c + 2 ^ (d + 1) ≤ 1000000000 → wi = 20 - d →
  Calls Tryz.prog 38 #[.pointer (some ⟨P, 0, none⟩), .int .i64 wi] x (RFormP x P T d s)
theorem zero_wf : Pr.zero.wf := ⟨by decide, by decide, by decide, by decide⟩
theorem zero_in (w : World) (S : Nat → Prop) : FmIn w S (fmC 0 Pr.zero none 0 0) zeroF := by
  have wk : (Lit.int .i64 0).wf = true := by decide
  exact FmIn.shut (l := []) wk zero_wf FmRow.nil_
/-- What is answered where there is an error. -/
theorem rform_zero {w x y : World} {P d : Nat} {T : List Tok} {s s2 : PS} (h : fmS T d s = (zeroF, s2)) (hx : FIn w x P T s2) (g : x.grownBy y (some w.heap.size)) :
    RFormP w P T d s (.returned (.agg #[.int .i64 0, .int .i64 0, .int .i64 0, .int .i64 0, .int .i64 0, .slice none 0 0])) y := by
  unfold RFormP
  rw [h]
  have hl := hx.lt
  exact ⟨none, 0, rfl, zero_in _ _, hx.bx.next g fun k e => by cases e; exact hl, grown_new hx.gr g fun k e => by cases e; exact Nat.le_refl _⟩
/-- What is answered of an atom. -/
theorem rform_atom {w x y : World} {P d : Nat} {T : List Tok} {s s2 : PS} {q : Pr} (h : fmS T d s = (.mk 3 q [], s2)) (hx : FIn w x P T s2) (hq : q.wf) (g : x.grownBy y (some w.heap.size)) :
    RFormP w P T d s (.returned (.agg #[.int .i64 3, .int .i64 q.k, .int .i64 q.t, .int .i64 q.a, .int .i64 q.n, .slice none 0 0])) y := by
  unfold RFormP
  rw [h]
  have hl := hx.lt
  have wk : (Lit.int .i64 3).wf = true := by decide
  exact ⟨none, 0, rfl, FmIn.shut (l := []) wk hq FmRow.nil_, hx.bx.next g fun k e => by cases e; exact hl, grown_new hx.gr g fun k e => by cases e; exact Nat.le_refl _⟩
/-- What is answered of parts. -/
theorem rform_kids {w x y : World} {P d F : Nat} {T : List Tok} {s s2 : PS} {k : Int} {l : List Fm} {a : Option Addr} {cap : Nat} (h : fmS T d s = (.mk k Pr.zero l, s2)) (hx : FIn w x P T s2) (hk : 1 ≤ k ∧ k ≤ 12) (hF : w.heap.size < F) (hK : Kds x (F + 1) (.slice a l.length cap) l)
    (g : x.grownBy y (some w.heap.size)) : RFormP w P T d s (.returned (.agg #[.int .i64 k, .int .i64 0, .int .i64 0, .int .i64 0, .int .i64 0, .slice a l.length cap])) y := by
  unfold RFormP
  rw [h]
  have hl := hx.lt
  have hr := (Kds.row hK).2
  have wk : (Lit.int .i64 k).wf = true := WalkArith.wf_i64 (by omega)
  refine ⟨a, cap, rfl, FmIn.shut wk zero_wf ((hr.keep fun b o hb => ?_).widen fun b hb => ⟨by omega, by have := g.size; omega⟩), hx.bx.next g fun k e => by cases e; exact hl, grown_new hx.gr g fun k e => by cases e; exact Nat.le_refl _⟩
  exact World.cell?_of_block (w := x) (a := ⟨b, o, none⟩) (g.block b hb.2 (by simp; omega))

set_option maxRecDepth 100000 in
set_option maxHeartbeats 16000000 in
theorem rform_step (T : List Tok) (hE : Ends T) (hT : Tn T) (d : Nat) (hd : d ≤ 20) (ih : ∀ e, d = e + 1 → RFormAt T e) : RFormAt T d := by
  intro w P s wi hS hc hwi
  have hp : 1 ≤ 2 ^ (d + 1) := Nat.pow_pos (by omega)
  have hsc : s.c ≤ 1000000000 := by omega
  have hwc : IntKind.i64.wrap ((s.c : Int) + 1) = (s.c : Int) + 1 := IntWalk.i64_in _ (by omega)
  have Hih := hid ih
  have Hc := hid hc
  have HS := hid hS
  have hPw := hS.sz
  have Hwi := hid hwi
  clear ih hc hS hp hwi
  go_enter Tryz.func38, Tryz.ntmps38
  go_upto_region 1 with fail
  generalize hW : World.alloc w _ = W0
  have H0 : Hid (FIn w W0 P T s) := by subst hW; exact hid ⟨grown_alloc (grown_refl _ _) _, HS.out.alloc _, alloc_at rfl, hPw⟩
  clear hW HS
  obtain ⟨pf, p1, p2, p3⟩ := H0.out.bx.cells
  have hsz := H0.out.bx.sz
  go_upto_region 2 with fail
  generalize hW : World.setCell W0 _ _ = W1
  have H1 : Hid (FIn w W1 P T ⟨s.i, s.c + 1, s.e⟩) := by
    have h := H0.out.bx.putC (s.c + 1)
    rw [show ((s.c + 1 : Nat) : Int) = (s.c : Int) + 1 by omega] at h
    subst hW
    exact hid (H0.out.next h (grown_set _ _ _ _))
  clear hW pf p1 p2 p3 hsz H0 hwc
  obtain ⟨pf, p1, p2, p3⟩ := H1.out.bx.cells
  have hsz := H1.out.bx.sz
  dsimp only at p1 p2 p3
  rw [show ((s.c + 1 : Nat) : Int) = (s.c : Int) + 1 by omega] at p2
  obtain ⟨i0, hi0⟩ : ∃ i0 : Nat, s.i = i0 := ⟨_, rfl⟩
  obtain ⟨c0, hc0⟩ : ∃ c0 : Nat, s.c = c0 := ⟨_, rfl⟩
  rw [hi0] at p1
  rw [hc0] at p2 hsc
  have Hs := hid (And.intro hi0 hc0)
  clear hi0 hc0
  obtain ⟨b27, hb27⟩ : ∃ b : Bool, b = decide (d = 0 ∨ 200 < c0 + 1) := ⟨_, rfl⟩
  have Hb27 := hid hb27
  clear hb27
  go_cut [27] from 19 to 26 (fun v wx => v = .bool b27 ∧ wx = W1)
  case first =>
    by_cases e0 : (20 : Int) ≤ wi
    · have b0 : decide ((20 : Int) ≤ wi) = true := decide_eq_true e0
      have hb : Hid (b27 = true) := hid (by rw [Hb27.out]; exact decide_eq_true (.inl (by have := Hwi.out; omega)))
      clear Hb27
      go_wp2_with fail
      go_meet
      case rel => exact ⟨by rw [hb.out], rfl⟩
    have b0 : decide ((20 : Int) ≤ wi) = false := decide_eq_false e0
    by_cases e1 : (200 : Int) < (c0 : Int) + 1
    · have b1 : decide ((200 : Int) < (c0 : Int) + 1) = true := decide_eq_true e1
      have hb : Hid (b27 = true) := hid (by rw [Hb27.out]; exact decide_eq_true (.inr (by omega)))
      clear Hb27
      go_wp2_with fail
      go_meet
      case rel => exact ⟨by rw [hb.out], rfl⟩
    have b1 : decide ((200 : Int) < (c0 : Int) + 1) = false := decide_eq_false e1
    have hb : Hid (b27 = false) := hid (by rw [Hb27.out]; exact decide_eq_false (by have := Hwi.out; omega))
    clear Hb27
    go_wp2_with fail
    go_meet
    case rel => exact ⟨by rw [hb.out], rfl⟩
  case rest =>
  obtain ⟨rfl, hwx⟩ := hcut
  subst hwx
  rename World => W1
  go_upto_if 27 with fail
  go_cut [27] from 28 to 29 (fun v wx => v = .bool b27 ∧ FIn w wx P T (if b27 = true then failS 2 ⟨s.i, s.c + 1, s.e⟩ else ⟨s.i, s.c + 1, s.e⟩))
  case first =>
    cases b27 with
    | true =>
      have HF := hid (rfail_any W1 P T ⟨s.i, s.c + 1, s.e⟩ 2 H1.out.bx)
      clear Hb27
      go_wp2_with (first
        | (go_at_call 39
           with_reducible refine HF.out.mono ?_
           rintro e W2 ⟨rfl, hS2, hg2⟩
           have H2 := hid (H1.out.next hS2 hg2)
           clear hS2 hg2)
        | fail)
      go_meet
      case rel => exact ⟨rfl, H2.out⟩
    | false =>
      clear Hb27
      go_wp2_with fail
      go_meet
      case rel => exact ⟨rfl, H1.out⟩
  case rest =>
  obtain ⟨rfl, hx⟩ := hcut
  rename World => W2
  have H2 := hid hx
  clear hx H1 pf p1 p2 p3 hsz
  obtain ⟨s1, hs1⟩ : ∃ s1 : PS, s1 = if b27 = true then failS 2 ⟨s.i, s.c + 1, s.e⟩ else ⟨s.i, s.c + 1, s.e⟩ := ⟨_, rfl⟩
  rw [← hs1] at H2
  have hs1i : s1.i = s.i := by
    rw [hs1]
    split
    · exact failS_i.1
    · rfl
  have Hs1 := hid hs1
  have Hs1i := hid hs1i
  clear hs1 hs1i
  obtain ⟨b, off, cap, t0, hbP, hle, hmx, k0, k1, k2, k3⟩ := H2.out.bx.tok
  obtain ⟨pf, p1, p2, p3⟩ := H2.out.bx.cells
  have hlt := H2.out.bx.lt
  have hsz := H2.out.bx.sz
  unfold maxLen at hmx
  rw [Hs1i.out] at k0 k1 k2 k3 p1 hlt
  obtain ⟨tk, htk⟩ : ∃ tk, tkP T s.i = tk := ⟨_, rfl⟩
  rw [htk] at k0 k1 k2 k3
  rw [Hs.out.1] at k0 k1 k2 k3 p1 hlt
  have Htk := hid htk
  clear htk p2 p3
  have q0 : (0 : Int) ≤ i0 := by omega
  have q1 : (i0 : Int) < T.length := by omega
  have HD := hid H2.out.drew
  have hsz : P < W2.drew.heap.size := hsz
  go_upto_region 4 with fail
  refine wp_region_held_drew (S := fun W => W.cell? ⟨P, 0, none⟩ = some (.slice (some ⟨b, off, none⟩) T.length cap) ∧ W.cell? ⟨P, 1, none⟩ = some (.int .i64 i0) ∧ W.cell? ⟨b, off + i0 * 4, none⟩ = some (.int .i64 tk.kind) ∧ W.cell? ⟨b, off + i0 * 4 + 1, none⟩ = some (strV tk.text) ∧ W.cell? ⟨b, off + i0 * 4 + 2, none⟩ = some (.int .i64 tk.n) ∧ W.cell? ⟨b, off + i0 * 4 + 3, none⟩ = some (.int .i64 tk.place)) (by kernel_rfl) ⟨t0, p1, k0, k1, k2, k3⟩ (fun hHeld => ?_)
  generalize World.drew W2 = x0 at HD t0 p1 k0 k1 k2 k3 pf hsz hHeld ⊢
  refine takeL (i := 0) (v := ?_) rfl (by kernel_rfl) (by kernel_rfl) (by kernel_rfl) (fun _ _ _ h => h) (Or.inl ⟨by rfl, ?_⟩) (by assumption) ?_
  rotate_left
  focus (intro w hSw; go_simp; try with_reducible rfl)
  try simp only [Act.put, List.setIfInBounds_toArray, List.set_cons_zero, List.set_cons_succ]
  refine takeL (i := 1) (v := ?_) rfl (by kernel_rfl) (by kernel_rfl) (by kernel_rfl) (fun _ _ _ h => h) (Or.inl ⟨by rfl, ?_⟩) (by assumption) ?_
  rotate_left
  focus (intro w hSw; go_simp; try with_reducible rfl)
  try simp only [Act.put, List.setIfInBounds_toArray, List.set_cons_zero, List.set_cons_succ]
  refine takeL (i := 2) (v := ?_) rfl (by kernel_rfl) (by kernel_rfl) (by kernel_rfl) (fun _ _ _ h => h) (Or.inl ⟨by rfl, ?_⟩) (by assumption) ?_
  rotate_left
  focus (intro w hSw; go_simp; try with_reducible rfl)
  try simp only [Act.put, List.setIfInBounds_toArray, List.set_cons_zero, List.set_cons_succ]
  refine takeL (i := 3) (v := ?_) rfl (by kernel_rfl) (by kernel_rfl) (by kernel_rfl) (fun _ _ _ h => h) (Or.inl ⟨by rfl, ?_⟩) (by assumption) ?_
  rotate_left
  focus (intro w hSw; go_simp; try with_reducible rfl)
  try simp only [Act.put, List.setIfInBounds_toArray, List.set_cons_zero, List.set_cons_succ]
  refine takeL (i := 4) (v := ?_) rfl (by kernel_rfl) (by kernel_rfl) (by kernel_rfl) (fun _ _ _ h => h) (Or.inl ⟨by rfl, ?_⟩) (by assumption) ?_
  rotate_left
  focus (intro w hSw; go_simp; try with_reducible rfl)
  try simp only [Act.put, List.setIfInBounds_toArray, List.set_cons_zero, List.set_cons_succ]
  refine takeL (i := 5) (v := ?_) rfl (by kernel_rfl) (by kernel_rfl) (by kernel_rfl) (fun _ _ _ h => h) (Or.inl ⟨by rfl, ?_⟩) (by assumption) ?_
  rotate_left
  focus (intro w hSw; go_simp; try with_reducible rfl)
  try simp only [Act.put, List.setIfInBounds_toArray, List.set_cons_zero, List.set_cons_succ]
  refine takeL (i := 6) (v := ?_) rfl (by kernel_rfl) (by kernel_rfl) (by kernel_rfl) (fun _ _ _ h => h) (Or.inl ⟨by rfl, ?_⟩) (by assumption) ?_
  rotate_left
  focus (intro w hSw; go_simp; try with_reducible rfl)
  try simp only [Act.put, List.setIfInBounds_toArray, List.set_cons_zero, List.set_cons_succ]
  refine takeL (i := 7) (v := ?_) rfl (by kernel_rfl) (by kernel_rfl) (by kernel_rfl) (fun _ _ _ h => h) (Or.inl ⟨by rfl, ?_⟩) (by assumption) ?_
  rotate_left
  focus (intro w hSw; go_simp; try with_reducible rfl)
  try simp only [Act.put, List.setIfInBounds_toArray, List.set_cons_zero, List.set_cons_succ]
  refine takeL (i := 8) (v := ?_) rfl (by kernel_rfl) (by kernel_rfl) (by kernel_rfl) (fun _ _ _ h => h) (Or.inl ⟨by rfl, ?_⟩) (by assumption) ?_
  rotate_left
  focus (intro w hSw; go_simp; try with_reducible rfl)
  try simp only [Act.put, List.setIfInBounds_toArray, List.set_cons_zero, List.set_cons_succ]
  refine takeL (i := 9) (v := ?_) rfl (by kernel_rfl) (by kernel_rfl) (by kernel_rfl) (fun _ _ _ h => h) (Or.inl ⟨by rfl, ?_⟩) (by assumption) ?_
  rotate_left
  focus (intro w hSw; go_simp; try with_reducible rfl)
  try simp only [Act.put, List.setIfInBounds_toArray, List.set_cons_zero, List.set_cons_succ]
  have hbs : b < x0.heap.size := by omega
  refine callL (i := 10) (by kernel_rfl) rfl (fun K hQ => ?_)
  go_simp
  refine hQ.out _ _ ⟨by go_simp, by go_simp, by go_simp, by go_simp, by go_simp, by go_simp⟩ (fun hHeld => ?_)
  clear hQ
  try simp only [Act.put, List.setIfInBounds_toArray, List.set_cons_zero, List.set_cons_succ]
  have hne : b ≠ x0.heap.size := by omega
  have hne2 : P ≠ x0.heap.size := by omega
  refine callL (i := 11) (by kernel_rfl) rfl (fun K hQ => ?_)
  go_simp
  refine hQ.out _ _ ⟨by go_simp, by go_simp, by go_simp, by go_simp, by go_simp, by go_simp⟩ (fun hHeld => ?_)
  clear hQ
  try simp only [Act.put, List.setIfInBounds_toArray, List.set_cons_zero, List.set_cons_succ]
  refine wpAnyH_done (by kernel_rfl) ?_ _
  generalize hW : World.alloc x0 _ = W3
  have H3 : Hid (FIn w W3 P T s1) := by subst hW; exact hid (HD.out.alloc _)
  have hR3 : Hid (W3.heap[x0.heap.size]? = some (tkO tk)) := by subst hW; exact hid (alloc_at rfl)
  clear hW t0 p1 k0 k1 k2 k3 pf hne hne2 hbs hsz H2 HD hHeld hlt q0 q1 hmx hle hbP
  generalize x0.heap.size = R at *
  obtain ⟨r9, r0, r1, r2, r3⟩ := tkO_cells hR3.out
  go_upto_region 6 with (first
    | (go_at_call 58
       with_reducible refine (rkind_frm tk.text W3).mono ?_
       rintro e W4 ⟨rfl, hb4⟩
       have H4 := hid (H3.out.below hb4)
       have hR4 := hid ((hb4.block R r9).trans hR3.out)
       clear hb4)
    | fail)
  generalize hW : World.alloc W4 _ = W5
  have H5 : Hid (FIn w W5 P T s1) := by subst hW; exact hid (H4.out.alloc _)
  have hFb5 : Hid (W5.heap[W4.heap.size]? = some (fmO (kdF tk.text) Pr.zero (.slice none 0 0))) := by subst hW; exact hid (alloc_at rfl)
  have r94 := (Array.getElem?_eq_some_iff.1 hR4.out).1
  have hR5 : Hid (W5.heap[R]? = some (tkO tk)) := by subst hW; exact hid ((Below.heap_alloc _ _ _ r94).trans hR4.out)
  have hwF := H4.out.szR
  generalize W4.heap.size = F at *
  clear hW H3 H4 hR3 hR4 r0 r1 r2 r3 r9 r94
  obtain ⟨r9, r0, r1, r2, r3⟩ := tkO_cells hR5.out
  have hF5 : F < W5.heap.size := (Array.getElem?_eq_some_iff.1 hFb5.out).1
  go_upto_region 7 with (first
    | (go_at_call 58
       with_reducible refine (rkind_shp tk.text W5).mono ?_
       rintro e W6 ⟨rfl, hb6⟩
       have H6 := hid (H5.out.below hb6)
       have hFb6 := hid ((hb6.block F hF5).trans hFb5.out)
       clear hb6)
    | fail)
  clear H5 hFb5 hR5 r0 r1 r2 r3 r9 hF5
  obtain ⟨z9, zf, z0, z1, z2, z3, z4, z5⟩ := fmO_cells hFb6.out
  obtain ⟨fk, hfk⟩ : ∃ fk, kdF tk.text = fk := ⟨_, rfl⟩
  obtain ⟨pk, hpk⟩ : ∃ pk, kdP tk.text = pk := ⟨_, rfl⟩
  rw [hfk] at z0 hFb6 ⊢
  rw [hpk]
  have Hfk := hid (And.intro hfk hpk)
  clear hfk hpk
  obtain ⟨b53, hb53⟩ : ∃ b : Bool, b = decide (fk = 0 ∧ pk = 0) := ⟨_, rfl⟩
  have Hb53 := hid hb53
  clear hb53
  go_cut [53] from 47 to 52 (fun v wx => v = .bool b53 ∧ wx = W6)
  case first =>
    by_cases e0 : fk = 0
    · have b0 : (fk == 0) = true := by simpa using e0
      by_cases e1 : pk = 0
      · have b1 : (pk == 0) = true := by simpa using e1
        have hb : Hid (b53 = true) := hid (by rw [Hb53.out]; exact decide_eq_true ⟨e0, e1⟩)
        clear Hb53 e0 e1
        go_wp2_with fail
        go_meet
        case rel => exact ⟨by rw [hb.out], rfl⟩
      · have b1 : (pk == 0) = false := by simpa using e1
        have hb : Hid (b53 = false) := hid (by rw [Hb53.out]; exact decide_eq_false fun h => e1 h.2)
        clear Hb53 e0 e1
        go_wp2_with fail
        go_meet
        case rel => exact ⟨by rw [hb.out], rfl⟩
    · have b0 : (fk == 0) = false := by simpa using e0
      have hb : Hid (b53 = false) := hid (by rw [Hb53.out]; exact decide_eq_false fun h => e0 h.1)
      clear Hb53 e0
      go_wp2_with fail
      go_meet
      case rel => exact ⟨by rw [hb.out], rfl⟩
  case rest =>
  obtain ⟨rfl, hwx⟩ := hcut
  subst hwx
  rename World => W6
  go_upto_if 53 with fail
  go_cut [53] from 54 to 55 (fun v wx => v = .bool b53 ∧ FIn w wx P T (if b53 = true then failS 21 s1 else s1) ∧ wx.heap[F]? = some (fmO fk Pr.zero (.slice none 0 0)))
  case first =>
    cases b53 with
    | true =>
      have HF := hid (rfail_any W6 P T s1 21 H6.out.bx)
      clear Hb53
      go_wp2_with (first
        | (go_at_call 39
           with_reducible refine HF.out.mono ?_
           rintro e W7 ⟨rfl, hS7, hg7⟩
           have H7 := hid (H6.out.next hS7 hg7)
           have hFb7 := hid ((hg7.block F z9 (by have := H6.out.lt; simp; omega)).trans hFb6.out)
           clear hS7 hg7)
        | fail)
      go_meet
      case rel => exact ⟨rfl, H7.out, hFb7.out⟩
    | false =>
      clear Hb53
      go_wp2_with fail
      go_meet
      case rel => exact ⟨rfl, H6.out, hFb6.out⟩
  case rest =>
  obtain ⟨rfl, hx, hfb⟩ := hcut
  rename World => W7
  have hhead : headS T d s = if b53 = true then failS 21 s1 else s1 := by
    unfold headS
    rw [Htk.out, Hfk.out.1, Hfk.out.2, Hb53.out, Hs1.out, Hb27.out, Hs.out.2]
    simp only [decide_eq_true_eq]
  rw [← hhead] at hx
  have H7 := hid hx
  have hFb7 := hid hfb
  clear hx hfb hhead H6 hFb6 z9 zf z0 z1 z2 z3 z4 z5 Hs1 Hs1i Hb53 Hb27
  obtain ⟨s2, hs2⟩ : ∃ s2, headS T d s = s2 := ⟨_, rfl⟩
  rw [hs2] at H7
  have Hs2 := hid hs2
  clear hs2
  obtain ⟨pf, p1, p2, p3⟩ := H7.out.bx.cells
  have hsz := H7.out.bx.sz
  obtain ⟨z9, zf, z0, z1, z2, z3, z4, z5⟩ := fmO_cells hFb7.out
  obtain ⟨u9, uf, u0, u1, u2, u3, u4, u5⟩ := fmO_cells H7.out.rb
  by_cases he : s2.e ≠ 0
  · have hse : (s2.e != 0) = true := by simpa using he
    have hfm : fmS T d s = (zeroF, s2) := by
      cases d with
      | zero => rw [fmS, Hs2.out]
      | succ d =>
        rw [fmS]
        simp only [Hs2.out]
        rw [if_pos he]
    have hfin := hid (rform_zero hfm H7.out (six_grown W7 w.heap.size (.int .i64 0) (.int .i64 0) (.int .i64 0) (.int .i64 0) (.int .i64 0) (.slice none 0 0)))
    have hr6 := res6 (c0 := .int .i64 0) (c1 := .int .i64 0) (c2 := .int .i64 0) (c3 := .int .i64 0) (c4 := .int .i64 0) (c5 := .slice none 0 0) H7.out.rb
    have r0 := hid (cell_of_heap (j := 0) hr6)
    have r1 := hid (cell_of_heap (j := 1) hr6)
    have r2 := hid (cell_of_heap (j := 2) hr6)
    have r3 := hid (cell_of_heap (j := 3) hr6)
    have r4 := hid (cell_of_heap (j := 4) hr6)
    have r5 := hid (cell_of_heap (j := 5) hr6)
    clear hfm hr6 he
    go_wp2_with fail
    have r0 := r0.out
    have r1 := r1.out
    have r2 := r2.out
    have r3 := r3.out
    have r4 := r4.out
    have r5 := r5.out
    simp at r0 r1 r2 r3 r4 r5
    exact bodyPost_ret (v := .agg #[.int .i64 0, .int .i64 0, .int .i64 0, .int .i64 0, .int .i64 0, .slice none 0 0]) (by simp [results, Tryz.results38, go_sem, r0, r1, r2, r3, r4, r5]) rfl hfin.out
  have he : s2.e = 0 := by simpa using he
  have hse : (s2.e != 0) = false := by simpa using he
  obtain ⟨e, rfl⟩ : ∃ e, d = e + 1 := by
    cases d with
    | zero => exact absurd (by rw [← Hs2.out] at he; exact he) (headS_zero T s)
    | succ e => exact ⟨e, rfl⟩
  have hs2i : s2.i = i0 := by rw [← Hs2.out, headS_i.1, Hs.out.1]
  have hs2c : s2.c = c0 + 1 := by rw [← Hs2.out, headS_i.2, Hs.out.2]
  have hi1 : i0 + 1 < T.length := by
    have h1 : (tkP T s.i).text ≠ [] := headS_word (d := e + 1) (by rw [Hs2.out]; exact he)
    rw [← hs2i]
    exact tkP_lt hE H7.out.bx.lt (.inr (by rw [hs2i, ← Hs.out.1]; exact h1))
  rw [hs2i] at p1
  have hwi1 : IntKind.i64.wrap ((i0 : Int) + 1) = (i0 : Int) + 1 := IntWalk.i64_in _ (by have := H7.out.bx.tok; obtain ⟨_, _, cap, _, _, h1, h2, _⟩ := this; unfold maxLen at h2; omega)
  have hfmS : Hid (fmS T (e + 1) s = if 0 < pk then atomS T pk s2 else (.mk fk Pr.zero (kidsS T (fmS T e) (frmK fk) (nextS s2, [])).2, shutS T (frmK fk) (kidsS T (fmS T e) (frmK fk) (nextS s2, [])).1)) := by
    refine hid ?_
    rw [fmS]
    simp only [Hs2.out, Htk.out, Hfk.out.1, Hfk.out.2]
    rw [if_neg (fun h => h he)]
  go_upto_region 12 with fail
  generalize hW : World.setCell W7 _ _ = W8
  have H8 : Hid (FIn w W8 P T (nextS s2)) := by
    have h := H7.out.bx.putI (i := i0 + 1) hi1
    rw [show ((i0 + 1 : Nat) : Int) = (i0 : Int) + 1 by omega] at h
    have h2 : (⟨i0 + 1, s2.c, s2.e⟩ : PS) = nextS s2 := by unfold nextS; rw [hs2i]
    rw [h2] at h
    subst hW
    exact hid (H7.out.next h (grown_set _ _ _ _))
  have hFb8 : Hid (W8.heap[F]? = some (fmO fk Pr.zero (.slice none 0 0))) := by
    have hlt := H7.out.lt
    subst hW
    exact hid ((Below.heap_setCell _ _ _ _ (by simp; omega)).trans hFb7.out)
  have hn1 : (nextS s2).e = 0 := he
  have hn2 : (nextS s2).i < T.length := H8.out.bx.lt
  have hn3 : (nextS s2).c = c0 + 1 := hs2c
  generalize hs3 : nextS s2 = s3 at *
  have Hs3 := hid hs3
  clear hW H7 hFb7 pf p1 p2 p3 hsz z9 zf z0 z1 z2 z3 z4 z5 u9 uf u0 u1 u2 u3 u4 u5 hwi1 he hse hs2i hs2c hs3
  by_cases hpk : 0 < pk
  · have hk : isShp pk := by rw [← Hfk.out.2]; exact kdP_shp (by rw [Hfk.out.2]; exact hpk)
    have d70 : decide (0 < pk) = true := decide_eq_true hpk
    obtain ⟨m, hm⟩ : ∃ m, (offs pk).length = m := ⟨_, rfl⟩
    have hm3 : m ≤ 3 := by rw [← hm]; exact offs_len pk
    have hfm : fmS T (e + 1) s = if (shutS T m (numsS T m (s3, [])).1).e ≠ 0 then (zeroF, shutS T m (numsS T m (s3, [])).1) else (.mk 3 (ofP pk (numsS T m (s3, [])).2) [], shutS T m (numsS T m (s3, [])).1) := by
      have h := hfmS.out
      rw [if_pos hpk] at h
      unfold atomS at h
      rw [Hs3.out, hm] at h
      exact h
    have Hfm := hid hfm
    have HNm : Hid (∀ W, Calls Tryz.prog 32 #[.agg #[.int .i64 pk, .int .i64 0, .int .i64 0, .int .i64 0]] W fun e9 w' => ∃ a cap, e9 = .returned (.slice a m cap) ∧ Below W.heap.size W w') := hid fun W => by
      refine (rnumbers_any ⟨pk, 0, 0, 0⟩ hk W).mono ?_
      rintro e9 w' ⟨a, cap, rfl, -, hb⟩
      have hl : (numsP ⟨pk, 0, 0, 0⟩).length = m := by rw [← hm]; simp [numsP]
      rw [hl]
      exact ⟨a, cap, rfl, hb⟩
    have HOf : Hid (∀ (l : List Int) (a : Option Addr) (cap : Nat) (W : World), IntIn W (In_ W) a l.length cap l → l.length = m → Calls Tryz.prog 60 #[.int .i64 pk, .slice a l.length cap] W (ROfP (ofP pk l) W)) := hid fun l a cap W h1 h2 => rof_any pk hk l a cap W h1 (by omega)
    have Hok : Hid (∀ l : List Int, l.length = m → (∀ x ∈ l, 0 ≤ x ∧ x ≤ 999999) → (ofP pk l).wf) := hid fun l h1 h2 => okP_wf (okP_of hk (by omega) h2)
    have Hful : Hid ((numsS T m (s3, [])).1.e = 0 → (numsS T m (s3, [])).2.length = m ∧ ∀ x ∈ (numsS T m (s3, [])).2, 0 ≤ x ∧ x ≤ 999999) := hid fun h => numsS_full hE hT hn2 hn1 h
    have Hat : Hid (∀ i, tkP T i = tkP T i) := hid fun i => rfl
    have hwz := H8.out.szR
    clear hfm hfmS hk hm hn3 Hat hpk Hih Hc Hwi
    go_upto_region 14 with (first
      | (go_at_call 32
         with_reducible refine (HNm.out W8).mono ?_
         rintro e9 W9 ⟨a9, c9, rfl, hb⟩
         have H9 := hid (H8.out.below hb)
         clear hb)
      | fail)
    clear H8 hFb8 HNm hwz
    go_upto_region 16 with fail
    generalize hW : World.alloc W9 _ = W10
    have H10 : Hid (FIn w W10 P T s3) := by subst hW; exact hid (H9.out.alloc _)
    have hwB : w.heap.size < W9.heap.size := H9.out.szR
    have HN10 : Hid (NumIs W10 W9.heap.size (.slice (some ⟨W9.heap.size, 0, none⟩) 0 0) []) := by
      subst hW
      exact hid ⟨⟨_, _, _, rfl⟩, World.ownsRow_made W9 #[] 0 (Nat.le_refl _) (by unfold maxLen; omega) rfl⟩
    have hBz : W9.heap.size < W10.heap.size := by subst hW; simp
    generalize W9.heap.size = B at *
    clear hW H9
    go_loopw [9, 10] (fun lv iv wr => ∃ j : Nat, iv = .int .i64 j ∧ j ≤ m ∧ Hid (FIn w wr P T (numsS T j (s3, [])).1) ∧ Hid (NumIs wr B lv (numsS T j (s3, [])).2) ∧ (numsS T j (s3, [])).2.length ≤ j ∧ B < wr.heap.size) (fun _ iv _ => m - (intOf iv).toNat)
    case atStart => exact ⟨0, rfl, Nat.zero_le _, H10, HN10, Nat.le_refl _, hBz⟩
    case round =>
      rename World => x
      obtain ⟨j, rfl, hjm, HX, HK, hll, hBx⟩ := hrel
      by_cases hlt : j < m
      · have hk1 : numsS T (j + 1) (s3, []) = numS T j (numsS T j (s3, [])) := rfl
        have HN := hid (fun W hW => rneed_any W P T (numsS T j (s3, [])).1 (sgnJ j) hE hW)
        unfold numS at hk1
        simp only at hk1
        have Hk1 := hid hk1
        generalize (numsS T j (s3, [])).1 = sj at *
        generalize (numsS T j (s3, [])).2 = l at *
        generalize needS T (sgnJ j) sj = sn at *
        have hc3 : ∀ W : World, (W.alloc (.cells #[.string ⟨#[40]⟩, .string ⟨#[44]⟩, .string ⟨#[44]⟩] 9)).cell? ⟨W.heap.size, j, none⟩ = some (strV (sgnJ j)) := fun W => by
          have : j = 0 ∨ j = 1 ∨ j = 2 := by omega
          rcases this with rfl | rfl | rfl <;> go_simp <;> rfl
        generalize sgnJ j = sg at *
        clear hk1
        have j0 : (0 : Int) ≤ j := by omega
        have j1 : (j : Int) < 3 := by omega
        have j3 : j < 3 := by omega
        have d1 : decide ((j : Int) < (m : Int)) = true := decide_eq_true (by omega)
        go_upto_region 19 with (first
          | (go_at_call 59
             with_reducible refine (HN.out _ (HX.out.alloc _).bx).mono ?_
             rintro e9 y ⟨rfl, hS, hg⟩
             have hPB : P < B := by have := HX.out.lt; omega
             have HX := hid ((HX.out.alloc (.cells #[.string ⟨#[40]⟩, .string ⟨#[44]⟩, .string ⟨#[44]⟩] 9)).next hS hg)
             have HK := hid (numis_kept (numis_kept HK.out (World.grownBy_alloc _ (.cells #[.string ⟨#[40]⟩, .string ⟨#[44]⟩, .string ⟨#[44]⟩] 9) none) (fun _ e => by cases e)) hg (fun k e => by have := (Option.some.inj e); omega))
             have hBy : B < y.heap.size := by have h1 := hg.size; simp at h1; omega
             clear hS hg)
          | fail)
        clear HN hc3 j0 j1 j3 d1 hBx
        have HX := hid HX.out.drew
        have HK : Hid (NumIs y.drew B _ l) := hid (numis_kept (r := none) HK.out (grown_drew (grown_refl _ _)) fun _ e => by cases e)
        have hBy : B < y.drew.heap.size := hBy
        obtain ⟨b1, off1, cap1, t0, hbP1, hle1, hmx1, k0, k1, k2, k3⟩ := HX.out.bx.tok
        obtain ⟨pf, p1, p2, p3⟩ := HX.out.bx.cells
        have hlt1 := HX.out.bx.lt
        unfold maxLen at hmx1
        obtain ⟨t1, ht1⟩ : ∃ t1, tkP T sn.i = t1 := ⟨_, rfl⟩
        obtain ⟨i1, hi1'⟩ : ∃ i1 : Nat, sn.i = i1 := ⟨_, rfl⟩
        have hnx : t1.kind = 2 → i1 + 1 < T.length := fun h => by rw [← hi1']; exact tkP_lt hE HX.out.bx.lt (.inl (by rw [ht1, h]; decide))
        rw [ht1] at k0 k2
        rw [hi1'] at k0 k2 p1 hlt1
        have Ht1 := hid (And.intro ht1 hi1')
        have Hnx := hid hnx
        clear ht1 hi1' k1 k3 p2 hnx
        have q0 : (0 : Int) ≤ i1 := by omega
        have q1 : (i1 : Int) < T.length := by omega
        refine wp_region_held_drew (S := fun W => W.cell? ⟨P, 0, none⟩ = some (.slice (some ⟨b1, off1, none⟩) T.length cap1) ∧ W.cell? ⟨P, 1, none⟩ = some (.int .i64 i1) ∧ W.cell? ⟨b1, off1 + i1 * 4, none⟩ = some (.int .i64 t1.kind)) (by kernel_rfl) ⟨t0, p1, k0⟩ (fun hHeld => ?_)
        generalize World.drew y = X0 at HX HK hBy t0 p1 p3 pf k0 k2 hHeld ⊢
        refine takeL (i := 0) (v := ?_) rfl (by kernel_rfl) (by kernel_rfl) (by kernel_rfl) (fun _ _ _ h => h) (Or.inl ⟨by rfl, ?_⟩) (by assumption) ?_
        rotate_left
        focus (intro w hSw; go_simp; try with_reducible rfl)
        try simp only [Act.put, List.setIfInBounds_toArray, List.set_cons_zero, List.set_cons_succ]
        refine takeL (i := 1) (v := ?_) rfl (by kernel_rfl) (by kernel_rfl) (by kernel_rfl) (fun _ _ _ h => h) (Or.inl ⟨by rfl, ?_⟩) (by assumption) ?_
        rotate_left
        focus (intro w hSw; go_simp; try with_reducible rfl)
        try simp only [Act.put, List.setIfInBounds_toArray, List.set_cons_zero, List.set_cons_succ]
        refine takeL (i := 2) (v := ?_) rfl (by kernel_rfl) (by kernel_rfl) (by kernel_rfl) (fun _ _ _ h => h) (Or.inl ⟨by rfl, ?_⟩) (by assumption) ?_
        rotate_left
        focus (intro w hSw; go_simp; try with_reducible rfl)
        try simp only [Act.put, List.setIfInBounds_toArray, List.set_cons_zero, List.set_cons_succ]
        refine takeL (i := 3) (v := ?_) rfl (by kernel_rfl) (by kernel_rfl) (by kernel_rfl) (fun _ _ _ h => h) (Or.inl ⟨by rfl, ?_⟩) (by assumption) ?_
        rotate_left
        focus (intro w hSw; go_simp; try with_reducible rfl)
        try simp only [Act.put, List.setIfInBounds_toArray, List.set_cons_zero, List.set_cons_succ]
        refine takeL (i := 4) (v := ?_) rfl (by kernel_rfl) (by kernel_rfl) (by kernel_rfl) (fun _ _ _ h => h) (Or.inl ⟨by rfl, ?_⟩) (by assumption) ?_
        rotate_left
        focus (intro w hSw; go_simp; try with_reducible rfl)
        try simp only [Act.put, List.setIfInBounds_toArray, List.set_cons_zero, List.set_cons_succ]
        refine takeL (i := 5) (v := ?_) rfl (by kernel_rfl) (by kernel_rfl) (by kernel_rfl) (fun _ _ _ h => h) (Or.inl ⟨by rfl, ?_⟩) (by assumption) ?_
        rotate_left
        focus (intro w hSw; go_simp; try with_reducible rfl)
        try simp only [Act.put, List.setIfInBounds_toArray, List.set_cons_zero, List.set_cons_succ]
        refine takeL (i := 6) (v := ?_) rfl (by kernel_rfl) (by kernel_rfl) (by kernel_rfl) (fun _ _ _ h => h) (Or.inl ⟨by rfl, ?_⟩) (by assumption) ?_
        rotate_left
        focus (intro w hSw; go_simp; try with_reducible rfl)
        try simp only [Act.put, List.setIfInBounds_toArray, List.set_cons_zero, List.set_cons_succ]
        refine takeL (i := 7) (v := ?_) rfl (by kernel_rfl) (by kernel_rfl) (by kernel_rfl) (fun _ _ _ h => h) (Or.inl ⟨by rfl, ?_⟩) (by assumption) ?_
        rotate_left
        focus (intro w hSw; go_simp; try with_reducible rfl)
        try simp only [Act.put, List.setIfInBounds_toArray, List.set_cons_zero, List.set_cons_succ]
        refine takeL (i := 8) (v := ?_) rfl (by kernel_rfl) (by kernel_rfl) (by kernel_rfl) (fun _ _ _ h => h) (Or.inl ⟨by rfl, ?_⟩) (by assumption) ?_
        rotate_left
        focus (intro w hSw; go_simp; try with_reducible rfl)
        try simp only [Act.put, List.setIfInBounds_toArray, List.set_cons_zero, List.set_cons_succ]
        refine takeL (i := 9) (v := ?_) rfl (by kernel_rfl) (by kernel_rfl) (by kernel_rfl) (fun _ _ _ h => h) (Or.inl ⟨by rfl, ?_⟩) (by assumption) ?_
        rotate_left
        focus (intro w hSw; go_simp; try with_reducible rfl)
        try simp only [Act.put, List.setIfInBounds_toArray, List.set_cons_zero, List.set_cons_succ]
        refine takeL (i := 10) (v := ?_) rfl (by kernel_rfl) (by kernel_rfl) (by kernel_rfl) (fun _ _ _ h => h) (Or.inl ⟨by rfl, ?_⟩) (by assumption) ?_
        rotate_left
        focus (intro w hSw; go_simp; try with_reducible rfl)
        try simp only [Act.put, List.setIfInBounds_toArray, List.set_cons_zero, List.set_cons_succ]
        refine takeL (i := 11) (v := ?_) rfl (by kernel_rfl) (by kernel_rfl) (by kernel_rfl) (fun _ _ _ h => h) (Or.inl ⟨by rfl, ?_⟩) (by assumption) ?_
        rotate_left
        focus (intro w hSw; go_simp; try with_reducible rfl)
        try simp only [Act.put, List.setIfInBounds_toArray, List.set_cons_zero, List.set_cons_succ]
        refine wpAnyH_done (by kernel_rfl) ?_ _
        clear hHeld
        by_cases hkd : t1.kind = 2
        · have b98 : (t1.kind != 2) = false := by simpa using hkd
          have b98' : (t1.kind == 2) = true := by simpa using hkd
          by_cases he1 : sn.e = 0
          · have b105 : (sn.e == 0) = true := by simpa using he1
            have hk2 : numsS T (j + 1) (s3, []) = (nextS sn, l ++ [t1.n]) := by
              rw [Hk1.out, Ht1.out.1]
              have hn : ¬ t1.kind ≠ 2 := fun h => h hkd
              simp only [if_neg hn]
              rw [if_pos he1, Ht1.out.1]
            have Hk2 := hid hk2
            have hi2 := Hnx.out hkd
            have hwi1 : IntKind.i64.wrap ((i1 : Int) + 1) = (i1 : Int) + 1 := IntWalk.i64_in _ (by omega)
            have he1 := hid he1
            clear hk2 Hk1 Hnx k0 hkd
            go_upto_region 22 with fail
            have HX := hid HX.out.drew
            have HK : Hid (NumIs X0.drew B _ l) := hid (numis_kept (r := none) HK.out (grown_drew (grown_refl _ _)) fun _ e => by cases e)
            have hBy : B < X0.drew.heap.size := hBy
            have t0 : X0.drew.cell? _ = _ := t0
            have p1 : X0.drew.cell? _ = _ := p1
            have k2 : X0.drew.cell? _ = _ := k2
            have hPB : P < B := by have := HX.out.lt; omega
            refine wp_region_held_drew (S := fun W => W.cell? ⟨P, 0, none⟩ = some (.slice (some ⟨b1, off1, none⟩) T.length cap1) ∧ W.cell? ⟨P, 1, none⟩ = some (.int .i64 i1) ∧ W.cell? ⟨b1, off1 + i1 * 4 + 2, none⟩ = some (.int .i64 t1.n)) (by kernel_rfl) ⟨t0, p1, k2⟩ (fun hHeld => ?_)
            clear pf p3
            generalize World.drew X0 = X1 at HX HK hBy t0 p1 k2 hHeld ⊢
            refine takeL (i := 0) (v := ?_) rfl (by kernel_rfl) (by kernel_rfl) (by kernel_rfl) (fun _ _ _ h => h) (Or.inl ⟨by rfl, ?_⟩) (by assumption) ?_
            rotate_left
            focus (intro w hSw; go_simp; try with_reducible rfl)
            try simp only [Act.put, List.setIfInBounds_toArray, List.set_cons_zero, List.set_cons_succ]
            refine takeL (i := 1) (v := ?_) rfl (by kernel_rfl) (by kernel_rfl) (by kernel_rfl) (fun _ _ _ h => h) (Or.inl ⟨by rfl, ?_⟩) (by assumption) ?_
            rotate_left
            focus (intro w hSw; go_simp; try with_reducible rfl)
            try simp only [Act.put, List.setIfInBounds_toArray, List.set_cons_zero, List.set_cons_succ]
            refine takeL (i := 2) (v := ?_) rfl (by kernel_rfl) (by kernel_rfl) (by kernel_rfl) (fun _ _ _ h => h) (Or.inl ⟨by rfl, ?_⟩) (by assumption) ?_
            rotate_left
            focus (intro w hSw; go_simp; try with_reducible rfl)
            try simp only [Act.put, List.setIfInBounds_toArray, List.set_cons_zero, List.set_cons_succ]
            refine takeL (i := 3) (v := ?_) rfl (by kernel_rfl) (by kernel_rfl) (by kernel_rfl) (fun _ _ _ h => h) (Or.inl ⟨by rfl, ?_⟩) (by assumption) ?_
            rotate_left
            focus (intro w hSw; go_simp; try with_reducible rfl)
            try simp only [Act.put, List.setIfInBounds_toArray, List.set_cons_zero, List.set_cons_succ]
            refine takeL (i := 4) (v := ?_) rfl (by kernel_rfl) (by kernel_rfl) (by kernel_rfl) (fun _ _ _ h => h) (Or.inl ⟨by rfl, ?_⟩) (by assumption) ?_
            rotate_left
            focus (intro w hSw; go_simp; try with_reducible rfl)
            try simp only [Act.put, List.setIfInBounds_toArray, List.set_cons_zero, List.set_cons_succ]
            refine takeL (i := 5) (v := ?_) rfl (by kernel_rfl) (by kernel_rfl) (by kernel_rfl) (fun _ _ _ h => h) (Or.inl ⟨by rfl, ?_⟩) (by assumption) ?_
            rotate_left
            focus (intro w hSw; go_simp; try with_reducible rfl)
            try simp only [Act.put, List.setIfInBounds_toArray, List.set_cons_zero, List.set_cons_succ]
            refine takeL (i := 6) (v := ?_) rfl (by kernel_rfl) (by kernel_rfl) (by kernel_rfl) (fun _ _ _ h => h) (Or.inl ⟨by rfl, ?_⟩) (by assumption) ?_
            rotate_left
            focus (intro w hSw; go_simp; try with_reducible rfl)
            try simp only [Act.put, List.setIfInBounds_toArray, List.set_cons_zero, List.set_cons_succ]
            refine takeL (i := 7) (v := ?_) rfl (by kernel_rfl) (by kernel_rfl) (by kernel_rfl) (fun _ _ _ h => h) (Or.inl ⟨by rfl, ?_⟩) (by assumption) ?_
            rotate_left
            focus (intro w hSw; go_simp; try with_reducible rfl)
            try simp only [Act.put, List.setIfInBounds_toArray, List.set_cons_zero, List.set_cons_succ]
            refine takeL (i := 8) (v := ?_) rfl (by kernel_rfl) (by kernel_rfl) (by kernel_rfl) (fun _ _ _ h => h) (Or.inl ⟨by rfl, ?_⟩) (by assumption) ?_
            rotate_left
            focus (intro w hSw; go_simp; try with_reducible rfl)
            try simp only [Act.put, List.setIfInBounds_toArray, List.set_cons_zero, List.set_cons_succ]
            refine takeL (i := 9) (v := ?_) rfl (by kernel_rfl) (by kernel_rfl) (by kernel_rfl) (fun _ _ _ h => h) (Or.inl ⟨by rfl, ?_⟩) (by assumption) ?_
            rotate_left
            focus (intro w hSw; go_simp; try with_reducible rfl)
            try simp only [Act.put, List.setIfInBounds_toArray, List.set_cons_zero, List.set_cons_succ]
            refine takeL (i := 10) (v := ?_) rfl (by kernel_rfl) (by kernel_rfl) (by kernel_rfl) (fun _ _ _ h => h) (Or.inl ⟨by rfl, ?_⟩) (by assumption) ?_
            rotate_left
            focus (intro w hSw; go_simp; try with_reducible rfl)
            try simp only [Act.put, List.setIfInBounds_toArray, List.set_cons_zero, List.set_cons_succ]
            refine takeL (i := 11) (v := ?_) rfl (by kernel_rfl) (by kernel_rfl) (by kernel_rfl) (fun _ _ _ h => h) (Or.inl ⟨by rfl, ?_⟩) (by assumption) ?_
            rotate_left
            focus (intro w hSw; go_simp; try with_reducible rfl)
            try simp only [Act.put, List.setIfInBounds_toArray, List.set_cons_zero, List.set_cons_succ]
            have hP1 : P < X1.heap.size := by omega
            have hb1 : b1 < X1.heap.size := by omega
            refine callL (i := 12) (by kernel_rfl) rfl (fun K hQ => ?_)
            go_simp
            refine hQ.out _ _ ⟨by go_simp, by go_simp, by go_simp⟩ (fun hHeld => ?_)
            clear hQ
            try simp only [Act.put, List.setIfInBounds_toArray, List.set_cons_zero, List.set_cons_succ]
            refine callL (i := 13) (by kernel_rfl) rfl (fun K hQ => ?_)
            refine step_i6 (base := B) (.tmp 106) (.tmp 118) _ l.length (l.map (Value.int .i64)) 1 [.int .i64 t1.n] ?_ ?_ ?_ (World.ownsRow.alloc HK.out.2 _) ⟨_, _, rfl, src_new rfl⟩ one_i6 (by omega) (by simp; omega) ?_
            · rfl
            · rfl
            · rfl
            intro v2 W2 hO2 hg2 hat2
            have hown : ∀ k, Value.ownBlock _ = some k → B ≤ k := fun k hk => (HK.out.2.lt k hk).1
            have HK2 := hid (NumIs.app (news := [t1.n]) hO2)
            have H2 := hid ((HX.out.alloc _).more hg2 fun k e => by have := hown k e.symm.symm; omega)
            have hB2 : B < W2.heap.size := by have h1 := hg2.size; simp at h1; omega
            have hkp : ∀ b o, b < B → W2.cell? ⟨b, o, none⟩ = X1.cell? ⟨b, o, none⟩ := fun b o hb => (World.cell?_of_block (w := X1.alloc _) (a := ⟨b, o, none⟩) (hg2.block b (by simp; omega) fun e => by have := hown b e.symm; omega)).trans (World.cell?_alloc_lt _ _ _ (by show b < _; omega))
            have t0 := (hkp P 0 hPB).trans t0
            have p1 := (hkp P 1 hPB).trans p1
            have k2 := (hkp b1 _ (by omega)).trans k2
            clear hkp hO2 hg2 hat2 hown
            refine hQ.out _ _ ⟨t0, p1, k2⟩ (fun hHeld => ?_)
            clear hQ
            try simp only [Act.put, List.setIfInBounds_toArray, List.set_cons_zero, List.set_cons_succ]
            refine callL (i := 14) (by kernel_rfl) rfl (fun K hQ => ?_)
            go_simp
            refine hQ.out _ _ ⟨t0, p1, k2⟩ (fun hHeld => ?_)
            clear hQ
            try simp only [Act.put, List.setIfInBounds_toArray, List.set_cons_zero, List.set_cons_succ]
            refine wpAnyH_done (by kernel_rfl) ?_ _
            clear hHeld
            have hrel : Hid (FIn w (W2.setCell ⟨P, 1, none⟩ (.int .i64 ((i1 : Int) + 1))) P T (numsS T (j + 1) (s3, [])).1 ∧ NumIs (W2.setCell ⟨P, 1, none⟩ (.int .i64 ((i1 : Int) + 1))) B v2 (numsS T (j + 1) (s3, [])).2 ∧ (numsS T (j + 1) (s3, [])).2.length ≤ j + 1) := by
              rw [Hk2.out]
              have h := H2.out.bx.putI (i := i1 + 1) hi2
              rw [show ((i1 + 1 : Nat) : Int) = (i1 : Int) + 1 by omega] at h
              have h2 : (⟨i1 + 1, sn.c, sn.e⟩ : PS) = nextS sn := by unfold nextS; rw [Ht1.out.2]
              rw [h2] at h
              exact hid ⟨H2.out.next h (grown_set _ _ _ _), numis_kept HK2.out (grown_set _ _ _ _) (fun k e => by have := Option.some.inj e; omega), by simp; omega⟩
            obtain ⟨pf, -, -, -⟩ := H2.out.bx.cells
            have hPz := H2.out.bx.sz
            obtain ⟨hr1, hr2, hr3⟩ := hrel.out
            have hr1 := hid hr1
            have hr2 := hid hr2
            have hr3 := hid hr3
            have hr4 : Hid (B < (W2.setCell ⟨P, 1, none⟩ (.int .i64 ((i1 : Int) + 1))).heap.size) := hid (by simpa using hB2)
            clear hrel HK2 H2 HX HK Hk2
            go_wp2_with fail
            refine ⟨⟨j + 1, by simp, hlt, hr1, hr2, hr3.out, hr4.out⟩, by simp [intOf]; omega⟩
          · have b105 : (sn.e == 0) = false := by simpa using he1
            have hk2 : numsS T (j + 1) (s3, []) = (sn, l) := by
              rw [Hk1.out, Ht1.out.1]
              have hn : ¬ t1.kind ≠ 2 := fun h => h hkd
              simp only [if_neg hn]
              rw [if_neg he1]
            have hr1 : Hid (FIn w X0 P T (numsS T (j + 1) (s3, [])).1) := hid (by rw [hk2]; exact HX.out)
            have hr2 : Hid (NumIs X0 B _ (numsS T (j + 1) (s3, [])).2) := hid (by rw [hk2]; exact HK.out)
            have hr3 : Hid ((numsS T (j + 1) (s3, [])).2.length ≤ j + 1) := hid (by rw [hk2]; show l.length ≤ _; omega)
            clear hk2 Hk1 Hnx he1 HX HK hkd
            go_wp2_with fail
            refine ⟨⟨j + 1, by simp, hlt, hr1, hr2, hr3.out, hBy⟩, by simp [intOf]; omega⟩
        · have b98 : (t1.kind != 2) = true := by simpa using hkd
          have b98' : (t1.kind == 2) = false := by simpa using hkd
          have hF := rfail_any X0 P T sn 21 HX.out.bx
          have hk2 : numsS T (j + 1) (s3, []) = (failS 21 sn, l) ∧ (failS 21 sn).e ≠ 0 := by
            have h1 : (failS 21 sn).e ≠ 0 := by
              unfold failS
              split
              · show (21 : Int) ≠ 0
                decide
              · assumption
            refine ⟨?_, h1⟩
            rw [Hk1.out, Ht1.out.1]
            simp only [if_pos hkd]
            rw [if_neg h1]
          generalize failS 21 sn = s4 at hF hk2
          have b105 : (s4.e == 0) = false := by simpa using hk2.2
          have Hk2 := hid hk2.1
          have HF := hid hF
          clear hF hk2 Hk1 Hnx hkd t0 p1 k0 k2 p3 pf
          go_wp2_with (first
            | (go_at_call 39
               with_reducible refine HF.out.mono ?_
               rintro e9 y2 ⟨rfl, hS, hg⟩
               have hPB : P < B := by have := HX.out.lt; omega
               have HX := hid (HX.out.next hS hg)
               have HK := hid (numis_kept HK.out hg (fun k e => by have := Option.some.inj e; omega))
               have hBy : B < y2.heap.size := Nat.lt_of_lt_of_le hBy hg.size
               obtain ⟨pf, p1, p2, p3⟩ := HX.out.bx.cells
               have hsz := HX.out.bx.sz
               clear hS hg)
            | fail)
          refine ⟨⟨j + 1, by simp, hlt, hid (by rw [Hk2.out]; exact HX.out), hid (by rw [Hk2.out]; exact HK.out), by rw [Hk2.out]; show l.length ≤ _; omega, hBy⟩, by simp [intOf]; omega⟩
      · obtain rfl : j = m := by omega
        have d1 : decide ((j : Int) < (j : Int)) = false := decide_eq_false (by omega)
        have hfm2 := Hfm.out
        have hful2 := Hful.out
        obtain ⟨a5, c5, hv, -⟩ := IntIn.of_own HK.out.2
        generalize (numsS T j (s3, [])).1 = sj at *
        generalize (numsS T j (s3, [])).2 = l at *
        subst hv
        have HN := hid (fun W hW => rneed_any W P T sj [41] hE hW)
        have Hfm2 := hid hfm2
        have Hful2 := hid hful2
        clear hfm2 hful2
        go_upto_region 24 with fail
        obtain ⟨b128, hb128⟩ : ∃ b : Bool, b = decide (j ≠ 0) := ⟨_, rfl⟩
        have Hb128 := hid hb128
        clear hb128
        go_cut [128] from 127 to 127 (fun v wx => v = .bool b128 ∧ wx = x)
        case first =>
          have hcase : j = 0 ∨ j = 1 ∨ j = 2 ∨ j = 3 := by omega
          rcases hcase with rfl | rfl | rfl | rfl
          · have hb : Hid (b128 = false) := hid (by rw [Hb128.out]; rfl)
            clear Hb128
            go_wp2_with fail
            go_meet
            case rel => exact ⟨by rw [hb.out], rfl⟩
          all_goals
            have hb : Hid (b128 = true) := hid (by rw [Hb128.out]; rfl)
            clear Hb128
            go_wp2_with fail
            go_meet
            case rel => exact ⟨by rw [hb.out], rfl⟩
        case rest =>
        obtain ⟨rfl, hwx⟩ := hcut
        subst hwx
        rename World => x
        go_upto_if 128 with fail
        go_cut [128] from 129 to 130 (fun v wx => v = .bool b128 ∧ FIn w wx P T (shutS T j sj) ∧ NumIs wx B (.slice a5 l.length c5) l)
        case first =>
          cases b128 with
          | true =>
            have hj : j ≠ 0 := of_decide_eq_true Hb128.out.symm
            have hsh : shutS T j sj = needS T [41] sj := by unfold shutS; rw [if_neg hj]
            have Hsh := hid hsh
            clear Hb128 hj hsh
            go_wp2_with (first
              | (go_at_call 59
                 with_reducible refine (HN.out x HX.out.bx).mono ?_
                 rintro e9 y ⟨rfl, hS, hg⟩
                 have hPB : P < B := by have := HX.out.lt; omega
                 have HX := hid (HX.out.next hS hg)
                 have HK := hid (numis_kept HK.out hg (fun k e => by have := Option.some.inj e; omega))
                 clear hS hg)
              | fail)
            go_meet
            case rel => exact ⟨rfl, by rw [Hsh.out]; exact HX.out, HK.out⟩
          | false =>
            have hj : j = 0 := Classical.byContradiction fun h => by have := of_decide_eq_false Hb128.out.symm; exact this h
            have hsh : shutS T j sj = sj := by unfold shutS; rw [if_pos hj]
            have Hsh := hid hsh
            clear Hb128 hj hsh
            go_wp2_with fail
            go_meet
            case rel => exact ⟨rfl, by rw [Hsh.out]; exact HX.out, HK.out⟩
        case rest =>
        obtain ⟨rfl, hx, hk⟩ := hcut
        rename World => y
        have hbad : (shutS T j sj).e = 0 → sj.e = 0 := fun h => Classical.byContradiction fun hb => hb (by rw [shutS_bad hb] at h; exact h)
        have Hbad := hid hbad
        clear HX HK HN hbad Hb128
        generalize shutS T j sj = s4 at *
        have HX := hid hx
        have HK := hid hk
        clear hx hk
        obtain ⟨pf, p1, p2, p3⟩ := HX.out.bx.cells
        have hsz := HX.out.bx.sz
        obtain ⟨u9, uf, u0, u1, u2, u3, u4, u5⟩ := fmO_cells HX.out.rb
        by_cases he : s4.e ≠ 0
        · have hse : (s4.e != 0) = true := by simpa using he
          have hfm := Hfm2.out
          rw [if_pos he] at hfm
          have hfin := hid (rform_zero hfm HX.out (six_grown y w.heap.size (.int .i64 0) (.int .i64 0) (.int .i64 0) (.int .i64 0) (.int .i64 0) (.slice none 0 0)))
          have hr6 := res6 (c0 := .int .i64 0) (c1 := .int .i64 0) (c2 := .int .i64 0) (c3 := .int .i64 0) (c4 := .int .i64 0) (c5 := .slice none 0 0) HX.out.rb
          have r0 := hid (cell_of_heap (j := 0) hr6)
          have r1 := hid (cell_of_heap (j := 1) hr6)
          have r2 := hid (cell_of_heap (j := 2) hr6)
          have r3 := hid (cell_of_heap (j := 3) hr6)
          have r4 := hid (cell_of_heap (j := 4) hr6)
          have r5 := hid (cell_of_heap (j := 5) hr6)
          clear hfm hr6 he
          go_wp2_with fail
          have r0 := r0.out
          have r1 := r1.out
          have r2 := r2.out
          have r3 := r3.out
          have r4 := r4.out
          have r5 := r5.out
          simp at r0 r1 r2 r3 r4 r5
          exact bodyPost_ret (v := .agg #[.int .i64 0, .int .i64 0, .int .i64 0, .int .i64 0, .int .i64 0, .slice none 0 0]) (by simp [results, Tryz.results38, go_sem, r0, r1, r2, r3, r4, r5]) rfl hfin.out
        · have he : s4.e = 0 := by simpa using he
          have hse : (s4.e != 0) = false := by simpa using he
          have hfm := Hfm2.out
          rw [if_neg (fun h => h he)] at hfm
          obtain ⟨hlm, hrg⟩ := Hful2.out (Hbad.out he)
          have hwf := Hok.out l hlm hrg
          have HC := hid (fun W h => HOf.out l a5 c5 W h hlm)
          have Hfm3 := hid hfm
          have Hwf := hid hwf
          obtain ⟨a6, c6, hv, hIn⟩ := IntIn.of_own HK.out.2
          injection hv with e1 e2 e3
          subst e1 e3
          have HIn := hid (hIn.widen (S' := In_ y) fun b hb => hb.2)
          clear hfm hwf hIn he hrg hlm Hful2 Hbad Hfm2
          generalize ofP pk l = qq at *
          obtain ⟨qk, qt, qa, qn⟩ := qq
          go_wp2_with (first
            | (go_at_call 60
               with_reducible refine (HC.out y HIn.out).mono ?_
               rintro e9 y2 ⟨rfl, hb⟩
               have HX := hid (HX.out.below hb)
               obtain ⟨u9, uf, u0, u1, u2, u3, u4, u5⟩ := fmO_cells HX.out.rb
               clear hb)
            | fail)
          have hfin := hid (rform_atom Hfm3.out HX.out Hwf.out (six_grown y2 w.heap.size (.int .i64 3) (.int .i64 qk) (.int .i64 qt) (.int .i64 qa) (.int .i64 qn) (.slice none 0 0)))
          have hr6 := res6 (c0 := .int .i64 3) (c1 := .int .i64 qk) (c2 := .int .i64 qt) (c3 := .int .i64 qa) (c4 := .int .i64 qn) (c5 := .slice none 0 0) HX.out.rb
          have r0 := cell_of_heap (j := 0) hr6
          have r1 := cell_of_heap (j := 1) hr6
          have r2 := cell_of_heap (j := 2) hr6
          have r3 := cell_of_heap (j := 3) hr6
          have r4 := cell_of_heap (j := 4) hr6
          have r5 := cell_of_heap (j := 5) hr6
          simp at r0 r1 r2 r3 r4 r5
          exact bodyPost_ret (v := .agg #[.int .i64 3, .int .i64 qk, .int .i64 qt, .int .i64 qa, .int .i64 qn, .slice none 0 0]) (by simp [results, Tryz.results38, go_sem, r0, r1, r2, r3, r4, r5]) rfl hfin.out
  · have hfk : isFrm fk := by
      rw [← Hfk.out.1, ← Htk.out]
      exact head_frm (by rw [Hs2.out]; rw [← Hs3.out] at hn1; exact hn1) (by rw [Htk.out, Hfk.out.2]; exact hpk)
    have hfk2 : 1 ≤ fk ∧ fk ≤ 12 := by unfold isFrm at hfk; omega
    have d70 : decide (0 < pk) = false := decide_eq_false hpk
    have hfm : fmS T (e + 1) s = (.mk fk Pr.zero (kidsS T (fmS T e) (frmK fk) (s3, [])).2, shutS T (frmK fk) (kidsS T (fmS T e) (frmK fk) (s3, [])).1) := by
      have h := hfmS.out
      rw [if_neg hpk] at h
      exact h
    have Hfm := hid hfm
    have Hfk3 := hid hfk
    have hFz : F < W8.heap.size := (Array.getElem?_eq_some_iff.1 hFb8.out).1
    have hwF' : w.heap.size < F := hwF
    clear hfm hfk hfmS hpk
    have Hih := hid (Hih.out e rfl)
    have hm2 := frmK_le fk
    have Hpw : Hid (∀ j, j ≤ 1 → ∀ sn : PS, sn.c = (kidsS T (fmS T e) j (s3, [])).1.c → sn.c + 2 ^ (e + 1) ≤ 1000000000) := hid fun j hj sn h => by
      have h1 := Hc.out
      obtain ⟨hp1, hp2⟩ := two_nat (e + 1)
      obtain ⟨-, k2, -⟩ := kidsS_at hE (fmS_at hE e) j (s3, []) hn2
      rw [Hs.out.2] at h1
      have : j = 0 ∨ j = 1 := by omega
      rcases this with rfl | rfl
      · simp only [hn3] at k2; omega
      · simp only [hn3] at k2; omega
    have Hln : Hid (∀ j, (kidsS T (fmS T e) j (s3, [])).2.length = j) := hid fun j => by
      obtain ⟨-, -, k3⟩ := kidsS_at hE (fmS_at hE e) j (s3, []) hn2
      simpa using k3
    obtain ⟨m, hm⟩ : ∃ m, frmK fk = m := ⟨_, rfl⟩
    rw [hm] at hm2
    have Hm := hid hm
    have hws : IntKind.i64.wrap (wi + 1) = wi + 1 := IntWalk.i64_in _ (by have := Hwi.out; omega)
    have Hwi1 : Hid (wi + 1 = 20 - (e : Int)) := hid (by have := Hwi.out; omega)
    clear hm Hc Hwi
    go_upto_region 30 with fail
    go_loopw [11] (fun iv wr => ∃ (j : Nat) (v : Value), iv = .int .i64 j ∧ j ≤ m ∧ Hid (FIn w wr P T (kidsS T (fmS T e) j (s3, [])).1) ∧ Hid (wr.heap[F]? = some (fmO fk Pr.zero v)) ∧ Hid (Kds wr (F + 1) v (kidsS T (fmS T e) j (s3, [])).2)) (fun iv _ => m - (intOf iv).toNat)
    case atStart => exact ⟨0, .slice none 0 0, rfl, Nat.zero_le _, H8, hFb8, hid Kds.nil⟩
    case round =>
      rename World => x
      obtain ⟨j, v, rfl, hjm, HX, HB, HK⟩ := hrel
      have hlen := Hln.out j
      have HKd := hid (rkids_any fk hfk2)
      rw [Hm.out] at HKd
      obtain ⟨z9, zf, z0, z1, z2, z3, z4, z5⟩ := fmO_cells HB.out
      by_cases hlt : j < m
      · have j2 : j ≤ 1 := by omega
        have hk1 : kidsS T (fmS T e) (j + 1) (s3, []) = ((fmS T e (needS T (sgnJ j) (kidsS T (fmS T e) j (s3, [])).1)).2, (kidsS T (fmS T e) j (s3, [])).2 ++ [(fmS T e (needS T (sgnJ j) (kidsS T (fmS T e) j (s3, [])).1)).1]) := rfl
        have hcn := Hpw.out j j2 (needS T (sgnJ j) (kidsS T (fmS T e) j (s3, [])).1) needS_c
        have HN := hid (fun W hW => rneed_any W P T (kidsS T (fmS T e) j (s3, [])).1 (sgnJ j) hE hW)
        have HC := hid (fun X hX => Hih.out X P (needS T (sgnJ j) (kidsS T (fmS T e) j (s3, [])).1) (wi + 1) hX hcn Hwi1.out)
        have Hk1 := hid hk1
        generalize (kidsS T (fmS T e) j (s3, [])).1 = sj at *
        generalize (kidsS T (fmS T e) j (s3, [])).2 = l at *
        generalize needS T (sgnJ j) sj = sn at *
        unfold RFormP at HC
        generalize fmS T e sn = o at *
        obtain ⟨f, so⟩ := o
        dsimp only at HC Hk1
        have hc2 : ∀ W : World, (W.alloc (.cells #[.string ⟨#[40]⟩, .string ⟨#[44]⟩] 9)).cell? ⟨W.heap.size, j, none⟩ = some (strV (sgnJ j)) := fun W => by
          have : j = 0 ∨ j = 1 := by omega
          rcases this with rfl | rfl <;> go_simp <;> rfl
        generalize sgnJ j = sg at *
        clear hk1 hcn
        have j0 : (0 : Int) ≤ j := by omega
        have j1 : (j : Int) < 2 := by omega
        have j3 : j < 2 := by omega
        have d1 : decide ((j : Int) < (m : Int)) = true := decide_eq_true (by omega)
        go_upto_region 33 with (first
          | (go_at_call 19
             with_reducible refine (HKd.out x).mono ?_
             rintro e x ⟨rfl, rfl⟩)
          | (go_at_call 59
             with_reducible refine (HN.out _ (HX.out.alloc _).bx).mono ?_
             rintro e y ⟨rfl, hS, hg⟩
             have HX := hid ((HX.out.alloc (.cells #[.string ⟨#[40]⟩, .string ⟨#[44]⟩] 9)).next hS hg)
             have hPF : P < F := by have := HX.out.lt; omega
             have HB := hid ((hg.block F (by simp; omega) (by simp; omega)).trans ((Below.heap_alloc _ _ _ z9).trans HB.out))
             have HK := hid (Kds.grown (HK.out.grown (World.grownBy_alloc _ (.cells #[.string ⟨#[40]⟩, .string ⟨#[44]⟩] 9) none) (fun _ e => by cases e)) hg (fun k e => by have := (Option.some.inj e); omega))
             clear hS hg)
          | fail)
        clear z9 zf z0 z1 z2 z3 z4 z5 HN HKd hc2 j0 j1 j3 d1
        have HX := hid HX.out.drew
        have HB : Hid (y.drew.heap[F]? = some (fmO fk Pr.zero v)) := HB
        have HK : Hid (Kds y.drew (F + 1) v l) := hid (HK.out.keepB (Nat.le_refl _) fun _ _ _ => rfl)
        obtain ⟨x9, xf, x0, x1, x2, x3, x4, x5⟩ := fmO_cells HB.out
        refine wp_region_held_drew (S := fun _ => True) (by kernel_rfl) trivial (fun hHeld => ?_)
        generalize World.drew y = X0 at HX HB HK x9 xf x0 x1 x2 x3 x4 x5 ⊢
        refine takeL (i := 0) (v := ?_) rfl (by kernel_rfl) (by kernel_rfl) (by kernel_rfl) (fun _ _ _ h => h) (Or.inl ⟨by rfl, ?_⟩) trivial ?_
        rotate_left
        focus (intro w hSw; go_simp; try with_reducible rfl)
        try simp only [Act.put, List.setIfInBounds_toArray, List.set_cons_zero, List.set_cons_succ]
        refine takeL (i := 2) (v := ?_) rfl (by kernel_rfl) (by kernel_rfl) (by kernel_rfl) (fun _ _ _ h => h) (Or.inl ⟨by rfl, ?_⟩) trivial ?_
        rotate_left
        focus (intro w hSw; go_simp; try with_reducible rfl)
        try simp only [Act.put, List.setIfInBounds_toArray, List.set_cons_zero, List.set_cons_succ]
        refine takeL (i := 3) (v := ?_) rfl (by kernel_rfl) (by kernel_rfl) (by kernel_rfl) (fun _ _ _ h => h) (Or.inl ⟨by rfl, ?_⟩) trivial ?_
        rotate_left
        focus (intro w hSw; go_simp; try with_reducible rfl)
        try simp only [Act.put, List.setIfInBounds_toArray, List.set_cons_zero, List.set_cons_succ]
        refine takeL (i := 4) (v := ?_) rfl (by kernel_rfl) (by kernel_rfl) (by kernel_rfl) (fun _ _ _ h => h) (Or.inl ⟨by rfl, ?_⟩) trivial ?_
        rotate_left
        focus (intro w hSw; go_simp; try with_reducible rfl)
        try simp only [Act.put, List.setIfInBounds_toArray, List.set_cons_zero, List.set_cons_succ]
        refine callL2 (i := 1) (j := 5) (by kernel_rfl) rfl rfl (fun K hQ => ?_) (fun K hQ => ?_)
        · go_simp
          refine hQ.out _ _ trivial (fun hHeld => ?_)
          clear hQ
          try simp only [Act.put, List.setIfInBounds_toArray, List.set_cons_zero, List.set_cons_succ]
          refine callL (i := 5) (by kernel_rfl) rfl (fun K hQ => ?_)
          go_simp
          go_at_call 38
          with_reducible refine (HC.out X0 HX.out.bx).mono ?_
          rintro e9 X1 ⟨a, cap1, rfl, hf, hS, hg⟩
          have hPF : P < F := by have := HX.out.lt; omega
          have HF : Hid (FmIn X1 (Ks (F + 1) X1 v) (fmC f.kind f.prop a f.kids.length cap1) f) := hid (hf.widen fun b hb => ⟨by have := hb.1; omega, hb.2, fun e => by have := (HK.out.own b e.symm).2; have := hb.1; omega⟩)
          have HK := hid (HK.out.grown hg fun k e => by have := (Option.some.inj e); omega)
          have HB := hid ((hg.block F x9 (by simp; omega)).trans HB.out)
          have HX := hid (HX.out.next hS hg)
          obtain ⟨x9, xf, x0, x1, x2, x3, x4, x5⟩ := fmO_cells HB.out
          clear hf hS hg
          refine hQ.out _ _ trivial (fun hHeld => ?_)
          clear hQ
          try simp only [Act.put, List.setIfInBounds_toArray, List.set_cons_zero, List.set_cons_succ]
          refine callL (i := 6) (by kernel_rfl) rfl (fun K hQ => ?_)
          go_simp
          refine hQ.out _ _ trivial (fun hHeld => ?_)
          clear hQ
          try simp only [Act.put, List.setIfInBounds_toArray, List.set_cons_zero, List.set_cons_succ]
          refine callL (i := 7) (by kernel_rfl) rfl (fun K hQ => ?_)
          refine step_fmK (base := F + 1) (.tmp 155) (.tmp 160) v l f (fmC f.kind f.prop a f.kids.length cap1) ?_ ?_ ?_ ?_ HK.out HF.out (by omega) (by omega) ?_
          · rfl
          · rfl
          · rfl
          · rfl
          intro A9 c9 W2 hK2 hg2
          have HK2 := hid hK2
          have hown : ∀ j, v.ownBlock = some j → F < j := fun j hj => by have := (HK.out.own j hj).1; omega
          have H2 := hid ((HX.out.alloc _).more hg2 fun k e => by have := hown k e; omega)
          have HB2 := hid ((hg2.block F (by simp; omega) (fun e => by have := hown F e.symm; omega)).trans ((Below.heap_alloc _ _ _ x9).trans HB.out))
          clear hK2 hg2 hown x9 xf x0 x1 x2 x3 x4 x5 HX HK HF HB
          obtain ⟨x9, xf, x0, x1, x2, x3, x4, x5⟩ := fmO_cells HB2.out
          refine hQ.out _ _ trivial (fun hHeld => ?_)
          clear hQ
          try simp only [Act.put, List.setIfInBounds_toArray, List.set_cons_zero, List.set_cons_succ]
          refine takeL (i := 8) (v := ?_) rfl (by kernel_rfl) (by kernel_rfl) (by kernel_rfl) (fun _ _ _ h => h) (Or.inl ⟨by rfl, ?_⟩) trivial ?_
          rotate_left
          focus (intro w hSw; go_simp; try with_reducible rfl)
          try simp only [Act.put, List.setIfInBounds_toArray, List.set_cons_zero, List.set_cons_succ]
          refine callL (i := 9) (by kernel_rfl) rfl (fun K hQ => ?_)
          go_simp
          refine hQ.out _ _ trivial (fun hHeld => ?_)
          clear hQ
          try simp only [Act.put, List.setIfInBounds_toArray, List.set_cons_zero, List.set_cons_succ]
          refine wpAnyH_done (by kernel_rfl) ?_ _
          clear hHeld
          have hrel : Hid (FIn w (W2.setCell ⟨F, 5, none⟩ (.slice A9 (l.length + 1) c9)) P T (kidsS T (fmS T e) (j + 1) (s3, [])).1 ∧ (W2.setCell ⟨F, 5, none⟩ (.slice A9 (l.length + 1) c9)).heap[F]? = some (fmO fk Pr.zero (.slice A9 (l.length + 1) c9)) ∧ Kds (W2.setCell ⟨F, 5, none⟩ (.slice A9 (l.length + 1) c9)) (F + 1) (.slice A9 (l.length + 1) c9) (kidsS T (fmS T e) (j + 1) (s3, [])).2) := by
            have hb := HB2.out
            rw [Hk1.out]
            refine hid ⟨H2.out.more (grown_set _ _ _ _) fun k e => by cases e; exact hwF', by simp [World.setCell, Array.getElem?_modify, hb, fmO], HK2.out.keepB (by simp) fun b h1 _ => Below.heap_setCell _ _ _ _ (by simp; omega)⟩
          rw [hlen] at hrel
          generalize World.setCell W2 _ _ = W9 at hrel ⊢
          obtain ⟨hr1, hr2, hr3⟩ := hrel.out
          have hr1 := hid hr1
          have hr2 := hid hr2
          have hr3 := hid hr3
          clear hrel
          go_wp2_with fail
          refine ⟨⟨j + 1, _, by simp, hlt, hr1, hr2, hr3⟩, by simp [intOf]; omega⟩
        · go_simp
          go_at_call 38
          with_reducible refine (HC.out X0 HX.out.bx).mono ?_
          rintro e9 X2 ⟨a, cap1, rfl, hf, hS, hg⟩
          have hPF : P < F := by have := HX.out.lt; omega
          have HF : Hid (FmIn X2 (Ks (F + 1) X2 v) (fmC f.kind f.prop a f.kids.length cap1) f) := hid (hf.widen fun b hb => ⟨by have := hb.1; omega, hb.2, fun e => by have := (HK.out.own b e.symm).2; have := hb.1; omega⟩)
          have HK := hid (HK.out.grown hg fun k e => by have := (Option.some.inj e); omega)
          have HB := hid ((hg.block F x9 (by simp; omega)).trans HB.out)
          have HX := hid (HX.out.next hS hg)
          obtain ⟨x9, xf, x0, x1, x2, x3, x4, x5⟩ := fmO_cells HB.out
          clear hf hS hg
          refine hQ.out _ _ trivial (fun hHeld => ?_)
          clear hQ
          try simp only [Act.put, List.setIfInBounds_toArray, List.set_cons_zero, List.set_cons_succ]
          refine callL2 (i := 1) (j := 6) (by kernel_rfl) rfl rfl (fun K hQ => ?_) (fun K hQ => ?_)
          · go_simp
            refine hQ.out _ _ trivial (fun hHeld => ?_)
            clear hQ
            try simp only [Act.put, List.setIfInBounds_toArray, List.set_cons_zero, List.set_cons_succ]
            refine callL (i := 6) (by kernel_rfl) rfl (fun K hQ => ?_)
            go_simp
            refine hQ.out _ _ trivial (fun hHeld => ?_)
            clear hQ
            try simp only [Act.put, List.setIfInBounds_toArray, List.set_cons_zero, List.set_cons_succ]
            refine callL (i := 7) (by kernel_rfl) rfl (fun K hQ => ?_)
            refine step_fmK (base := F + 1) (.tmp 155) (.tmp 160) v l f (fmC f.kind f.prop a f.kids.length cap1) ?_ ?_ ?_ ?_ HK.out HF.out (by omega) (by omega) ?_
            · rfl
            · rfl
            · rfl
            · rfl
            intro A9 c9 W2 hK2 hg2
            have HK2 := hid hK2
            have hown : ∀ j, v.ownBlock = some j → F < j := fun j hj => by have := (HK.out.own j hj).1; omega
            have H2 := hid ((HX.out.alloc _).more hg2 fun k e => by have := hown k e; omega)
            have HB2 := hid ((hg2.block F (by simp; omega) (fun e => by have := hown F e.symm; omega)).trans ((Below.heap_alloc _ _ _ x9).trans HB.out))
            clear hK2 hg2 hown x9 xf x0 x1 x2 x3 x4 x5 HX HK HF HB
            obtain ⟨x9, xf, x0, x1, x2, x3, x4, x5⟩ := fmO_cells HB2.out
            refine hQ.out _ _ trivial (fun hHeld => ?_)
            clear hQ
            try simp only [Act.put, List.setIfInBounds_toArray, List.set_cons_zero, List.set_cons_succ]
            refine takeL (i := 8) (v := ?_) rfl (by kernel_rfl) (by kernel_rfl) (by kernel_rfl) (fun _ _ _ h => h) (Or.inl ⟨by rfl, ?_⟩) trivial ?_
            rotate_left
            focus (intro w hSw; go_simp; try with_reducible rfl)
            try simp only [Act.put, List.setIfInBounds_toArray, List.set_cons_zero, List.set_cons_succ]
            refine callL (i := 9) (by kernel_rfl) rfl (fun K hQ => ?_)
            go_simp
            refine hQ.out _ _ trivial (fun hHeld => ?_)
            clear hQ
            try simp only [Act.put, List.setIfInBounds_toArray, List.set_cons_zero, List.set_cons_succ]
            refine wpAnyH_done (by kernel_rfl) ?_ _
            clear hHeld
            have hrel : Hid (FIn w (W2.setCell ⟨F, 5, none⟩ (.slice A9 (l.length + 1) c9)) P T (kidsS T (fmS T e) (j + 1) (s3, [])).1 ∧ (W2.setCell ⟨F, 5, none⟩ (.slice A9 (l.length + 1) c9)).heap[F]? = some (fmO fk Pr.zero (.slice A9 (l.length + 1) c9)) ∧ Kds (W2.setCell ⟨F, 5, none⟩ (.slice A9 (l.length + 1) c9)) (F + 1) (.slice A9 (l.length + 1) c9) (kidsS T (fmS T e) (j + 1) (s3, [])).2) := by
              have hb := HB2.out
              rw [Hk1.out]
              refine hid ⟨H2.out.more (grown_set _ _ _ _) fun k e => by cases e; exact hwF', by simp [World.setCell, Array.getElem?_modify, hb, fmO], HK2.out.keepB (by simp) fun b h1 _ => Below.heap_setCell _ _ _ _ (by simp; omega)⟩
            rw [hlen] at hrel
            generalize World.setCell W2 _ _ = W9 at hrel ⊢
            obtain ⟨hr1, hr2, hr3⟩ := hrel.out
            have hr1 := hid hr1
            have hr2 := hid hr2
            have hr3 := hid hr3
            clear hrel
            go_wp2_with fail
            refine ⟨⟨j + 1, _, by simp, hlt, hr1, hr2, hr3⟩, by simp [intOf]; omega⟩
          · go_simp
            refine hQ.out _ _ trivial (fun hHeld => ?_)
            clear hQ
            try simp only [Act.put, List.setIfInBounds_toArray, List.set_cons_zero, List.set_cons_succ]
            refine callL (i := 1) (by kernel_rfl) rfl (fun K hQ => ?_)
            go_simp
            refine hQ.out _ _ trivial (fun hHeld => ?_)
            clear hQ
            try simp only [Act.put, List.setIfInBounds_toArray, List.set_cons_zero, List.set_cons_succ]
            refine callL (i := 7) (by kernel_rfl) rfl (fun K hQ => ?_)
            refine step_fmK (base := F + 1) (.tmp 155) (.tmp 160) v l f (fmC f.kind f.prop a f.kids.length cap1) ?_ ?_ ?_ ?_ HK.out HF.out (by omega) (by omega) ?_
            · rfl
            · rfl
            · rfl
            · rfl
            intro A9 c9 W2 hK2 hg2
            have HK2 := hid hK2
            have hown : ∀ j, v.ownBlock = some j → F < j := fun j hj => by have := (HK.out.own j hj).1; omega
            have H2 := hid ((HX.out.alloc _).more hg2 fun k e => by have := hown k e; omega)
            have HB2 := hid ((hg2.block F (by simp; omega) (fun e => by have := hown F e.symm; omega)).trans ((Below.heap_alloc _ _ _ x9).trans HB.out))
            clear hK2 hg2 hown x9 xf x0 x1 x2 x3 x4 x5 HX HK HF HB
            obtain ⟨x9, xf, x0, x1, x2, x3, x4, x5⟩ := fmO_cells HB2.out
            refine hQ.out _ _ trivial (fun hHeld => ?_)
            clear hQ
            try simp only [Act.put, List.setIfInBounds_toArray, List.set_cons_zero, List.set_cons_succ]
            refine takeL (i := 8) (v := ?_) rfl (by kernel_rfl) (by kernel_rfl) (by kernel_rfl) (fun _ _ _ h => h) (Or.inl ⟨by rfl, ?_⟩) trivial ?_
            rotate_left
            focus (intro w hSw; go_simp; try with_reducible rfl)
            try simp only [Act.put, List.setIfInBounds_toArray, List.set_cons_zero, List.set_cons_succ]
            refine callL (i := 9) (by kernel_rfl) rfl (fun K hQ => ?_)
            go_simp
            refine hQ.out _ _ trivial (fun hHeld => ?_)
            clear hQ
            try simp only [Act.put, List.setIfInBounds_toArray, List.set_cons_zero, List.set_cons_succ]
            refine wpAnyH_done (by kernel_rfl) ?_ _
            clear hHeld
            have hrel : Hid (FIn w (W2.setCell ⟨F, 5, none⟩ (.slice A9 (l.length + 1) c9)) P T (kidsS T (fmS T e) (j + 1) (s3, [])).1 ∧ (W2.setCell ⟨F, 5, none⟩ (.slice A9 (l.length + 1) c9)).heap[F]? = some (fmO fk Pr.zero (.slice A9 (l.length + 1) c9)) ∧ Kds (W2.setCell ⟨F, 5, none⟩ (.slice A9 (l.length + 1) c9)) (F + 1) (.slice A9 (l.length + 1) c9) (kidsS T (fmS T e) (j + 1) (s3, [])).2) := by
              have hb := HB2.out
              rw [Hk1.out]
              refine hid ⟨H2.out.more (grown_set _ _ _ _) fun k e => by cases e; exact hwF', by simp [World.setCell, Array.getElem?_modify, hb, fmO], HK2.out.keepB (by simp) fun b h1 _ => Below.heap_setCell _ _ _ _ (by simp; omega)⟩
            rw [hlen] at hrel
            generalize World.setCell W2 _ _ = W9 at hrel ⊢
            obtain ⟨hr1, hr2, hr3⟩ := hrel.out
            have hr1 := hid hr1
            have hr2 := hid hr2
            have hr3 := hid hr3
            clear hrel
            go_wp2_with fail
            refine ⟨⟨j + 1, _, by simp, hlt, hr1, hr2, hr3⟩, by simp [intOf]; omega⟩
      · obtain rfl : j = m := by omega
        have Hfm2 := Hfm
        rw [Hm.out] at Hfm2
        have HN := hid (fun W hW => rneed_any W P T (kidsS T (fmS T e) j (s3, [])).1 [41] hE hW)
        unfold shutS at Hfm2
        generalize (kidsS T (fmS T e) j (s3, [])).1 = sj at *
        generalize (kidsS T (fmS T e) j (s3, [])).2 = l at *
        obtain ⟨A9, c9, hv⟩ := HK.out.sl
        rw [hlen] at hv
        subst hv
        clear Hln Hm Hpw Hih Hfm
        have hcase : j = 0 ∨ j = 1 ∨ j = 2 := by omega
        rcases hcase with rfl | rfl | rfl
        · rw [if_pos rfl] at Hfm2
          go_upto_region 34 with (first
            | (go_at_call 19
               with_reducible refine (HKd.out x).mono ?_
               rintro e9 x ⟨rfl, rfl⟩)
            | (go_at_call 59
               with_reducible refine (HN.out x HX.out.bx).mono ?_
               rintro e9 y ⟨rfl, hS, hg⟩
               have hPF : P < F := by have := HX.out.lt; omega
               have HB := hid ((hg.block F z9 (by simp; omega)).trans HB.out)
               have HK := hid (HK.out.grown hg fun k e => by have := (Option.some.inj e); omega)
               have HX := hid (HX.out.next hS hg)
               clear hS hg)
            | fail)
          clear z9 zf z0 z1 z2 z3 z4 z5 HN HKd
          obtain ⟨z9, zf, z0, z1, z2, z3, z4, z5⟩ := fmO_cells HB.out
          obtain ⟨u9, uf, u0, u1, u2, u3, u4, u5⟩ := fmO_cells HX.out.rb
          have hr6 := res6 (c0 := .int .i64 fk) (c1 := .int .i64 0) (c2 := .int .i64 0) (c3 := .int .i64 0) (c4 := .int .i64 0) (c5 := .slice A9 0 c9) HX.out.rb
          have hK2 : Kds x (F + 1) (.slice A9 l.length c9) l := by rw [hlen]; exact HK.out
          have hfin := rform_kids Hfm2.out HX.out hfk2 hwF' hK2 (six_grown x w.heap.size (.int .i64 fk) (.int .i64 0) (.int .i64 0) (.int .i64 0) (.int .i64 0) (.slice A9 l.length c9))
          rw [hlen] at hfin
          have hfin := hid hfin
          have r0 := hid (cell_of_heap (j := 0) hr6)
          have r1 := hid (cell_of_heap (j := 1) hr6)
          have r2 := hid (cell_of_heap (j := 2) hr6)
          have r3 := hid (cell_of_heap (j := 3) hr6)
          have r4 := hid (cell_of_heap (j := 4) hr6)
          have r5 := hid (cell_of_heap (j := 5) hr6)
          have hne : w.heap.size ≠ F := by omega
          have hne' : F ≠ w.heap.size := by omega
          simp only [Pr.zero] at z1 z2 z3 z4
          clear hr6 HB HK HX hK2 hlen hm2 hjm hlt
          go_wp2_with fail
          have r0 := r0.out
          have r1 := r1.out
          have r2 := r2.out
          have r3 := r3.out
          have r4 := r4.out
          have r5 := r5.out
          simp at r0 r1 r2 r3 r4 r5
          exact bodyPost_ret (v := .agg #[.int .i64 fk, .int .i64 0, .int .i64 0, .int .i64 0, .int .i64 0, .slice A9 0 c9]) (by simp [results, Tryz.results38, go_sem, r0, r1, r2, r3, r4, r5]) rfl hfin.out
        · rw [if_neg (by decide)] at Hfm2
          go_upto_region 36 with (first
            | (go_at_call 19
               with_reducible refine (HKd.out x).mono ?_
               rintro e9 x ⟨rfl, rfl⟩)
            | (go_at_call 59
               with_reducible refine (HN.out x HX.out.bx).mono ?_
               rintro e9 y ⟨rfl, hS, hg⟩
               have hPF : P < F := by have := HX.out.lt; omega
               have HB := hid ((hg.block F z9 (by simp; omega)).trans HB.out)
               have HK := hid (HK.out.grown hg fun k e => by have := (Option.some.inj e); omega)
               have HX := hid (HX.out.next hS hg)
               clear hS hg)
            | fail)
          clear z9 zf z0 z1 z2 z3 z4 z5 HN HKd
          obtain ⟨z9, zf, z0, z1, z2, z3, z4, z5⟩ := fmO_cells HB.out
          obtain ⟨u9, uf, u0, u1, u2, u3, u4, u5⟩ := fmO_cells HX.out.rb
          have hr6 := res6 (c0 := .int .i64 fk) (c1 := .int .i64 0) (c2 := .int .i64 0) (c3 := .int .i64 0) (c4 := .int .i64 0) (c5 := .slice A9 1 c9) HX.out.rb
          have hK2 : Kds y (F + 1) (.slice A9 l.length c9) l := by rw [hlen]; exact HK.out
          have hfin := rform_kids Hfm2.out HX.out hfk2 hwF' hK2 (six_grown y w.heap.size (.int .i64 fk) (.int .i64 0) (.int .i64 0) (.int .i64 0) (.int .i64 0) (.slice A9 l.length c9))
          rw [hlen] at hfin
          have hfin := hid hfin
          have r0 := hid (cell_of_heap (j := 0) hr6)
          have r1 := hid (cell_of_heap (j := 1) hr6)
          have r2 := hid (cell_of_heap (j := 2) hr6)
          have r3 := hid (cell_of_heap (j := 3) hr6)
          have r4 := hid (cell_of_heap (j := 4) hr6)
          have r5 := hid (cell_of_heap (j := 5) hr6)
          have hne : w.heap.size ≠ F := by omega
          have hne' : F ≠ w.heap.size := by omega
          simp only [Pr.zero] at z1 z2 z3 z4
          clear hr6 HB HK HX hK2 hlen hm2 hjm hlt
          go_wp2_with fail
          have r0 := r0.out
          have r1 := r1.out
          have r2 := r2.out
          have r3 := r3.out
          have r4 := r4.out
          have r5 := r5.out
          simp at r0 r1 r2 r3 r4 r5
          exact bodyPost_ret (v := .agg #[.int .i64 fk, .int .i64 0, .int .i64 0, .int .i64 0, .int .i64 0, .slice A9 1 c9]) (by simp [results, Tryz.results38, go_sem, r0, r1, r2, r3, r4, r5]) rfl hfin.out
        · rw [if_neg (by decide)] at Hfm2
          go_upto_region 36 with (first
            | (go_at_call 19
               with_reducible refine (HKd.out x).mono ?_
               rintro e9 x ⟨rfl, rfl⟩)
            | (go_at_call 59
               with_reducible refine (HN.out x HX.out.bx).mono ?_
               rintro e9 y ⟨rfl, hS, hg⟩
               have hPF : P < F := by have := HX.out.lt; omega
               have HB := hid ((hg.block F z9 (by simp; omega)).trans HB.out)
               have HK := hid (HK.out.grown hg fun k e => by have := (Option.some.inj e); omega)
               have HX := hid (HX.out.next hS hg)
               clear hS hg)
            | fail)
          clear z9 zf z0 z1 z2 z3 z4 z5 HN HKd
          obtain ⟨z9, zf, z0, z1, z2, z3, z4, z5⟩ := fmO_cells HB.out
          obtain ⟨u9, uf, u0, u1, u2, u3, u4, u5⟩ := fmO_cells HX.out.rb
          have hr6 := res6 (c0 := .int .i64 fk) (c1 := .int .i64 0) (c2 := .int .i64 0) (c3 := .int .i64 0) (c4 := .int .i64 0) (c5 := .slice A9 2 c9) HX.out.rb
          have hK2 : Kds y (F + 1) (.slice A9 l.length c9) l := by rw [hlen]; exact HK.out
          have hfin := rform_kids Hfm2.out HX.out hfk2 hwF' hK2 (six_grown y w.heap.size (.int .i64 fk) (.int .i64 0) (.int .i64 0) (.int .i64 0) (.int .i64 0) (.slice A9 l.length c9))
          rw [hlen] at hfin
          have hfin := hid hfin
          have r0 := hid (cell_of_heap (j := 0) hr6)
          have r1 := hid (cell_of_heap (j := 1) hr6)
          have r2 := hid (cell_of_heap (j := 2) hr6)
          have r3 := hid (cell_of_heap (j := 3) hr6)
          have r4 := hid (cell_of_heap (j := 4) hr6)
          have r5 := hid (cell_of_heap (j := 5) hr6)
          have hne : w.heap.size ≠ F := by omega
          have hne' : F ≠ w.heap.size := by omega
          simp only [Pr.zero] at z1 z2 z3 z4
          clear hr6 HB HK HX hK2 hlen hm2 hjm hlt
          go_wp2_with fail
          have r0 := r0.out
          have r1 := r1.out
          have r2 := r2.out
          have r3 := r3.out
          have r4 := r4.out
          have r5 := r5.out
          simp at r0 r1 r2 r3 r4 r5
          exact bodyPost_ret (v := .agg #[.int .i64 fk, .int .i64 0, .int .i64 0, .int .i64 0, .int .i64 0, .slice A9 2 c9]) (by simp [results, Tryz.results38, go_sem, r0, r1, r2, r3, r4, r5]) rfl hfin.out
end Go.Proofs.YtogopcejapklgaaGreatDoor
namespace Go.Proofs.YtogopcejapklgaaGreatDoor
open Go Go.RowKit

theorem rform_any (T : List Tok) (hE : Ends T) (hT : Tn T) : ∀ d, d ≤ 20 → RFormAt T d
  | 0, h => rform_step T hE hT 0 h fun e he => absurd he (by omega)
  | d + 1, h => rform_step T hE hT (d + 1) h fun e he => by
    have : e = d := by omega
    subst this
    exact rform_any T hE hT e (by omega)
/-- In Parse: the boxes of the answer, of the parser, of the formula. -/
structure PIn (w x : World) (P : Nat) (T : List Tok) (s : PS) (F : Nat) (f : Fm) (a : Option Addr) (cap : Nat) : Prop where
  bl : Below w.heap.size w x
  bx : SBox x P T s
  rb : x.heap[w.heap.size]? = some (fmO 0 Pr.zero (.slice none 0 0))
  fb : x.heap[F]? = some (fmO f.kind f.prop (.slice a f.kids.length cap))
  fm : FmIn x (fun b => P < b ∧ b < x.heap.size) (fmC f.kind f.prop a f.kids.length cap) f
  lt : w.heap.size < P ∧ P < F
namespace PIn
variable {w x y : World} {P F cap : Nat} {T : List Tok} {s s' : PS} {f : Fm} {a : Option Addr}
theorem szF (h : PIn w x P T s F f a cap) : F < x.heap.size := (Array.getElem?_eq_some_iff.1 h.fb).1
theorem next (h : PIn w x P T s F f a cap) (hS : SBox y P T s') (g : x.grownBy y (some P)) : PIn w y P T s' F f a cap := by
  have hl := h.lt
  have hF := h.szF
  have hs := g.size
  refine ⟨h.bl.grown g h.bl.size fun k e => by cases e; omega, hS, (g.block _ (by omega) (by simp; omega)).trans h.rb, (g.block _ hF (by simp; omega)).trans h.fb, (h.fm.keep fun b o hb => ?_).widen fun b hb => ⟨hb.1, Nat.lt_of_lt_of_le hb.2 hs⟩, hl⟩
  exact World.cell?_of_block (w := x) (a := ⟨b, o, none⟩) (g.block b hb.2 (by have := hb.1; simp; omega))
theorem drew (h : PIn w x P T s F f a cap) : PIn w x.drew P T s F f a cap := h.next h.bx.drew (grown_drew (grown_refl _ _))
end PIn
theorem tok_apart {x : World} {R b o : Nat} {t : List UInt8} (h : x.heap[R]? = some (fmO 0 Pr.zero (.slice none 0 0))) (hc : x.cell? ⟨b, o, none⟩ = some (strV t)) : b ≠ R := by
  rintro rfl
  unfold fmO at h
  rw [cell_of_heap h] at hc
  match o with
  | 0 => simp at hc
  | 1 => simp [Pr.zero] at hc
  | 2 => simp [Pr.zero] at hc
  | 3 => simp [Pr.zero] at hc
  | 4 => simp [Pr.zero] at hc
  | 5 => simp at hc
  | n + 6 => simp at hc
theorem rparse_bad {L : List UInt8} (h : (lexQ L).2.1 ≠ 0) : prsR L = (zeroF, (lexQ L).2.1, (lexQ L).2.2) := by
  unfold prsR
  rw [if_pos h]
theorem rparse_ok {L : List UInt8} (h : (lexQ L).2.1 = 0) : prsR L = docR (lexQ L).1 := by
  unfold prsR
  rw [if_neg (by simp [h]), docR_eq]
  cases parT (lexQ L).1 <;> rfl

set_option maxRecDepth 100000 in
set_option maxHeartbeats 16000000 in
theorem rparse_any (s : ByteArray) (w : World) : Calls Tryz.prog 22 #[.string s] w (PrsPost s.data.toList w) := by
  have HL : Hid (∀ W, Calls Tryz.prog 37 #[.string s] W (LexP s.data.toList W)) := hid fun W => (lex_ref s W).mono fun _ _ h => h
  have HPz : Hid (∀ er at_ W', prsR s.data.toList = (zeroF, er, at_) → Below w.heap.size w W' → PrsPost s.data.toList w (.returned (.tuple #[.agg #[.int .i64 0, .int .i64 0, .int .i64 0, .int .i64 0, .int .i64 0, .slice none 0 0], .int .i64 er, .int .i64 at_])) W') := hid fun er at_ W' h hb => PrsPost.zero h hb
  have HPf : Hid (∀ f a cap W', prsR s.data.toList = (f, 0, 0) → Below w.heap.size w W' → FmIn W' (In_ W') (fmC f.kind f.prop a f.kids.length cap) f → PrsPost s.data.toList w (.returned (.tuple #[.agg #[.int .i64 f.kind, .int .i64 f.prop.k, .int .i64 f.prop.t, .int .i64 f.prop.a, .int .i64 f.prop.n, .slice a f.kids.length cap], .int .i64 0, .int .i64 0])) W') := hid fun f a cap W' h hb hf => by
    unfold PrsPost
    rw [h]
    exact ⟨a, cap, rfl, hf, hb⟩
  have hspec := lexQ_spec s.data.toList
  have hbad := @rparse_bad s.data.toList
  have hok := @rparse_ok s.data.toList
  unfold LexP at HL
  generalize prsR s.data.toList = pr at *
  generalize lexQ s.data.toList = lq at *
  obtain ⟨T, er, at_⟩ := lq
  dsimp only at HL hspec hbad hok
  generalize s.data.toList = LL at *
  have Hspec := hid hspec
  have Hbad := hid hbad
  have Hok := hid hok
  clear hspec hbad hok
  go_enter Tryz.func22, Tryz.ntmps22
  go_upto_region 1 with fail
  generalize hW : World.alloc w _ = W0
  have HB0 : Hid (Below w.heap.size w W0) := by subst hW; exact hid ((Below.refl _ _).alloc (Nat.le_refl _) _)
  have HR0 : Hid (W0.heap[w.heap.size]? = some (fmO 0 Pr.zero (.slice none 0 0))) := by subst hW; exact hid (alloc_at rfl)
  clear hW
  go_upto_region 2 with (first
    | (go_at_call 37
       with_reducible refine (HL.out W0).mono ?_
       rintro e W1 ⟨a, cap, rfl, hT, hb⟩
       have HB1 := hid (HB0.out.trans (hb.mono HB0.out.size))
       have hz0 := (Array.getElem?_eq_some_iff.1 HR0.out).1
       have HR1 := hid ((hb.block _ hz0).trans HR0.out)
       have HT := hid hT
       clear hb hT)
    | fail)
  clear HL HB0 HR0
  have hzR := (Array.getElem?_eq_some_iff.1 HR1.out).1
  by_cases her : er ≠ 0
  · have d1 : (er != 0) = true := by simpa using her
    have hfin := hid (HPz.out er at_ _ (Hbad.out her) (HB1.out.grown (six_grown W1 w.heap.size (.int .i64 0) (.int .i64 0) (.int .i64 0) (.int .i64 0) (.int .i64 0) (.slice none 0 0)) HB1.out.size fun k e => by cases e; exact Nat.le_refl _))
    obtain ⟨u9, uf, u0, u1, u2, u3, u4, u5⟩ := fmO_cells HR1.out
    have hr6 := res6 (c0 := .int .i64 0) (c1 := .int .i64 0) (c2 := .int .i64 0) (c3 := .int .i64 0) (c4 := .int .i64 0) (c5 := .slice none 0 0) HR1.out
    have r0 := hid (cell_of_heap (j := 0) hr6)
    have r1 := hid (cell_of_heap (j := 1) hr6)
    have r2 := hid (cell_of_heap (j := 2) hr6)
    have r3 := hid (cell_of_heap (j := 3) hr6)
    have r4 := hid (cell_of_heap (j := 4) hr6)
    have r5 := hid (cell_of_heap (j := 5) hr6)
    clear hr6 her
    go_wp2_with fail
    have r0 := r0.out
    have r1 := r1.out
    have r2 := r2.out
    have r3 := r3.out
    have r4 := r4.out
    have r5 := r5.out
    simp at r0 r1 r2 r3 r4 r5
    exact bodyPost_ret (v := .tuple #[.agg #[.int .i64 0, .int .i64 0, .int .i64 0, .int .i64 0, .int .i64 0, .slice none 0 0], .int .i64 er, .int .i64 at_]) (by simp [results, Tryz.results22, go_sem, r0, r1, r2, r3, r4, r5]) rfl hfin.out
  have her : er = 0 := by simpa using her
  subst her
  have d1 : ((0 : Int) != 0) = false := by simp
  obtain ⟨-, -, -, -, -, hE, hTn, -⟩ := Hspec.out.resolve_right (by intro h; rcases h.1 with h | h <;> cases h)
  have hpr := Hok.out rfl
  have hl0 : 0 < T.length := by
    obtain ⟨t, M, rfl⟩ := hE.cons_
    simp
  have Hpr := hid hpr
  have HE := hid hE
  have HTn := hid hTn
  clear Hok Hbad Hspec hpr hE hTn
  go_upto_region 5 with fail
  generalize hW : World.alloc W1 _ = W2
  have HS2 : Hid (SBox W2 W1.heap.size T ⟨0, 0, 0⟩) := by
    subst hW
    exact hid ⟨⟨a, cap, alloc_at rfl, (HT.out.keep fun b o hb => World.cell?_alloc_lt _ _ _ hb.2).widen fun b hb => hb.2⟩, hl0⟩
  have HB2 : Hid (Below w.heap.size w W2) := by subst hW; exact hid (HB1.out.alloc HB1.out.size _)
  have HR2 : Hid (W2.heap[w.heap.size]? = some (fmO 0 Pr.zero (.slice none 0 0))) := by subst hW; exact hid ((Below.heap_alloc _ _ _ hzR).trans HR1.out)
  have hwP : w.heap.size < W1.heap.size := hzR
  generalize W1.heap.size = P at *
  have HC := hid (rform_any T HE.out HTn.out 20 (by omega) W2 P ⟨0, 0, 0⟩ 0 HS2.out (by decide) rfl)
  unfold RFormP at HC
  have hdoc : docR T = if (if (tkP T (fmS T 20 ⟨0, 0, 0⟩).2.i).kind ≠ 0 then failS 21 (fmS T 20 ⟨0, 0, 0⟩).2 else (fmS T 20 ⟨0, 0, 0⟩).2).e ≠ 0 then (zeroF, (if (tkP T (fmS T 20 ⟨0, 0, 0⟩).2.i).kind ≠ 0 then failS 21 (fmS T 20 ⟨0, 0, 0⟩).2 else (fmS T 20 ⟨0, 0, 0⟩).2).e, ((tkP T (if (tkP T (fmS T 20 ⟨0, 0, 0⟩).2.i).kind ≠ 0 then failS 21 (fmS T 20 ⟨0, 0, 0⟩).2 else (fmS T 20 ⟨0, 0, 0⟩).2).i).place : Int)) else ((fmS T 20 ⟨0, 0, 0⟩).1, 0, 0) := rfl
  generalize fmS T 20 ⟨0, 0, 0⟩ = o at *
  obtain ⟨f, s1⟩ := o
  dsimp only at HC hdoc
  have Hdoc := hid hdoc
  clear hW HB1 HR1 HT hdoc hzR
  go_upto_region 6 with (first
    | (go_at_call 38
       with_reducible refine HC.out.mono ?_
       rintro e W3 ⟨fa, fc, rfl, hf, hS, hg⟩
       have hz2 := HS2.out.sz
       have HB3 := hid (HB2.out.grown hg HB2.out.size (fun k e => by cases e; omega))
       have HR3 := hid ((hg.block _ (by omega) (by simp; omega)).trans HR2.out)
       have HF3 := hid (hf.widen (S' := fun b => P < b ∧ b < W3.heap.size) fun b hb => ⟨by have := hb.1; omega, hb.2⟩)
       have HS3 := hid hS
       clear hf hS hg)
    | fail)
  generalize hW : World.alloc W3 _ = W4
  have hz3 := HS3.out.sz
  have H4 : Hid (PIn w W4 P T s1 W3.heap.size f fa fc) := by
    have hz := HB3.out.size
    have hwz : w.heap.size < W3.heap.size := (Array.getElem?_eq_some_iff.1 HR3.out).1
    subst hW
    exact hid ⟨HB3.out.alloc HB3.out.size _, HS3.out.alloc _, (Below.heap_alloc _ _ _ hwz).trans HR3.out, alloc_at rfl, (HF3.out.keep fun b o hb => World.cell?_alloc_lt _ _ _ hb.2).widen fun b hb => ⟨hb.1, by have := hb.2; simp; omega⟩, ⟨hwP, hz3⟩⟩
  generalize W3.heap.size = F at *
  clear hW HB3 HR3 HF3 HS3 HB2 HR2 HS2 HC hz2 hz3
  have HD := hid H4.out.drew
  obtain ⟨b1, off1, cap1, t0, hbP1, hle1, hmx1, k0, k1, k2, k3⟩ := HD.out.bx.tok
  obtain ⟨pf, p1, p2, p3⟩ := HD.out.bx.cells
  have hlt1 := HD.out.bx.lt
  unfold maxLen at hmx1
  obtain ⟨t1, ht1⟩ : ∃ t1, tkP T s1.i = t1 := ⟨_, rfl⟩
  obtain ⟨i1, hi1'⟩ : ∃ i1 : Nat, s1.i = i1 := ⟨_, rfl⟩
  rw [ht1] at k0
  rw [hi1'] at k0 p1 hlt1
  have Ht1 := hid ht1
  clear ht1 hi1' k1 k2 k3 p2 p3 H4
  have q0 : (0 : Int) ≤ i1 := by omega
  have q1 : (i1 : Int) < T.length := by omega
  refine wp_region_held_drew (S := fun W => W.cell? ⟨P, 0, none⟩ = some (.slice (some ⟨b1, off1, none⟩) T.length cap1) ∧ W.cell? ⟨P, 1, none⟩ = some (.int .i64 i1) ∧ W.cell? ⟨b1, off1 + i1 * 4, none⟩ = some (.int .i64 t1.kind)) (by kernel_rfl) ⟨t0, p1, k0⟩ (fun hHeld => ?_)
  generalize World.drew W4 = X0 at HD t0 p1 pf k0 hHeld ⊢
  refine takeL (i := 0) (v := ?_) rfl (by kernel_rfl) (by kernel_rfl) (by kernel_rfl) (fun _ _ _ h => h) (Or.inl ⟨by rfl, ?_⟩) (by assumption) ?_
  rotate_left
  focus (intro w hSw; go_simp; try with_reducible rfl)
  try simp only [Act.put, List.setIfInBounds_toArray, List.set_cons_zero, List.set_cons_succ]
  refine takeL (i := 1) (v := ?_) rfl (by kernel_rfl) (by kernel_rfl) (by kernel_rfl) (fun _ _ _ h => h) (Or.inl ⟨by rfl, ?_⟩) (by assumption) ?_
  rotate_left
  focus (intro w hSw; go_simp; try with_reducible rfl)
  try simp only [Act.put, List.setIfInBounds_toArray, List.set_cons_zero, List.set_cons_succ]
  refine takeL (i := 2) (v := ?_) rfl (by kernel_rfl) (by kernel_rfl) (by kernel_rfl) (fun _ _ _ h => h) (Or.inl ⟨by rfl, ?_⟩) (by assumption) ?_
  rotate_left
  focus (intro w hSw; go_simp; try with_reducible rfl)
  try simp only [Act.put, List.setIfInBounds_toArray, List.set_cons_zero, List.set_cons_succ]
  refine takeL (i := 3) (v := ?_) rfl (by kernel_rfl) (by kernel_rfl) (by kernel_rfl) (fun _ _ _ h => h) (Or.inl ⟨by rfl, ?_⟩) (by assumption) ?_
  rotate_left
  focus (intro w hSw; go_simp; try with_reducible rfl)
  try simp only [Act.put, List.setIfInBounds_toArray, List.set_cons_zero, List.set_cons_succ]
  refine takeL (i := 4) (v := ?_) rfl (by kernel_rfl) (by kernel_rfl) (by kernel_rfl) (fun _ _ _ h => h) (Or.inl ⟨by rfl, ?_⟩) (by assumption) ?_
  rotate_left
  focus (intro w hSw; go_simp; try with_reducible rfl)
  try simp only [Act.put, List.setIfInBounds_toArray, List.set_cons_zero, List.set_cons_succ]
  refine takeL (i := 5) (v := ?_) rfl (by kernel_rfl) (by kernel_rfl) (by kernel_rfl) (fun _ _ _ h => h) (Or.inl ⟨by rfl, ?_⟩) (by assumption) ?_
  rotate_left
  focus (intro w hSw; go_simp; try with_reducible rfl)
  try simp only [Act.put, List.setIfInBounds_toArray, List.set_cons_zero, List.set_cons_succ]
  refine takeL (i := 6) (v := ?_) rfl (by kernel_rfl) (by kernel_rfl) (by kernel_rfl) (fun _ _ _ h => h) (Or.inl ⟨by rfl, ?_⟩) (by assumption) ?_
  rotate_left
  focus (intro w hSw; go_simp; try with_reducible rfl)
  try simp only [Act.put, List.setIfInBounds_toArray, List.set_cons_zero, List.set_cons_succ]
  refine takeL (i := 7) (v := ?_) rfl (by kernel_rfl) (by kernel_rfl) (by kernel_rfl) (fun _ _ _ h => h) (Or.inl ⟨by rfl, ?_⟩) (by assumption) ?_
  rotate_left
  focus (intro w hSw; go_simp; try with_reducible rfl)
  try simp only [Act.put, List.setIfInBounds_toArray, List.set_cons_zero, List.set_cons_succ]
  refine takeL (i := 8) (v := ?_) rfl (by kernel_rfl) (by kernel_rfl) (by kernel_rfl) (fun _ _ _ h => h) (Or.inl ⟨by rfl, ?_⟩) (by assumption) ?_
  rotate_left
  focus (intro w hSw; go_simp; try with_reducible rfl)
  try simp only [Act.put, List.setIfInBounds_toArray, List.set_cons_zero, List.set_cons_succ]
  refine takeL (i := 9) (v := ?_) rfl (by kernel_rfl) (by kernel_rfl) (by kernel_rfl) (fun _ _ _ h => h) (Or.inl ⟨by rfl, ?_⟩) (by assumption) ?_
  rotate_left
  focus (intro w hSw; go_simp; try with_reducible rfl)
  try simp only [Act.put, List.setIfInBounds_toArray, List.set_cons_zero, List.set_cons_succ]
  refine takeL (i := 10) (v := ?_) rfl (by kernel_rfl) (by kernel_rfl) (by kernel_rfl) (fun _ _ _ h => h) (Or.inl ⟨by rfl, ?_⟩) (by assumption) ?_
  rotate_left
  focus (intro w hSw; go_simp; try with_reducible rfl)
  try simp only [Act.put, List.setIfInBounds_toArray, List.set_cons_zero, List.set_cons_succ]
  refine takeL (i := 11) (v := ?_) rfl (by kernel_rfl) (by kernel_rfl) (by kernel_rfl) (fun _ _ _ h => h) (Or.inl ⟨by rfl, ?_⟩) (by assumption) ?_
  rotate_left
  focus (intro w hSw; go_simp; try with_reducible rfl)
  try simp only [Act.put, List.setIfInBounds_toArray, List.set_cons_zero, List.set_cons_succ]
  refine wpAnyH_done (by kernel_rfl) ?_ _
  clear hHeld t0 p1 k0 pf hle1 hmx1 hlt1 q0 q1
  obtain ⟨b37, hb37⟩ : ∃ b : Bool, (t1.kind != 0) = b := ⟨_, rfl⟩
  have hb37' := hb37
  go_upto_if 37 with fail
  rw [hb37]
  have Hb37 := hid hb37'
  clear hb37 hb37'
  go_cut [37] from 38 to 39 (fun v wx => v = .bool b37 ∧ PIn w wx P T (if (tkP T s1.i).kind ≠ 0 then failS 21 s1 else s1) F f fa fc)
  case first =>
    cases b37 with
    | true =>
      have hk : (tkP T s1.i).kind ≠ 0 := by rw [Ht1.out]; simpa using Hb37.out
      have hs9 : (if (tkP T s1.i).kind ≠ 0 then failS 21 s1 else s1) = failS 21 s1 := if_pos hk
      have Hs9 := hid hs9
      clear hs9
      have HF := hid (rfail_any X0 P T s1 21 HD.out.bx)
      clear Hb37 hk
      go_wp2_with (first
        | (go_at_call 39
           with_reducible refine HF.out.mono ?_
           rintro e X1 ⟨rfl, hS, hg⟩
           have H5 := hid (HD.out.next hS hg)
           clear hS hg)
        | fail)
      go_meet
      case rel => exact ⟨rfl, by rw [Hs9.out]; exact H5.out⟩
    | false =>
      have hk : ¬ (tkP T s1.i).kind ≠ 0 := by rw [Ht1.out]; simpa using Hb37.out
      have hs9 : (if (tkP T s1.i).kind ≠ 0 then failS 21 s1 else s1) = s1 := if_neg hk
      have Hs9 := hid hs9
      clear hs9
      clear Hb37 hk
      go_wp2_with fail
      go_meet
      case rel => exact ⟨rfl, by rw [Hs9.out]; exact HD.out⟩
  case rest =>
  obtain ⟨rfl, hx⟩ := hcut
  rename World => X2
  generalize (if (tkP T s1.i).kind ≠ 0 then failS 21 s1 else s1) = s2 at *
  have HX := hid hx
  clear hx HD Hb37 Ht1
  obtain ⟨pf, p1, p2, p3⟩ := HX.out.bx.cells
  have hsz := HX.out.bx.sz
  have hlt := HX.out.lt
  by_cases he : s2.e ≠ 0
  · have hse : (s2.e != 0) = true := by simpa using he
    have hpr : pr = (zeroF, s2.e, ((tkP T s2.i).place : Int)) := by
      rw [Hpr.out, Hdoc.out, if_pos he]
    have hHPz := fun W hb => HPz.out _ _ W hpr hb
    have HPy := hid hHPz
    clear hHPz hpr he
    go_upto_region 9 with fail
    have HD := hid HX.out.drew
    have hfin := HPy.out _ (HD.out.bl.grown (six_grown X2.drew w.heap.size (.int .i64 0) (.int .i64 0) (.int .i64 0) (.int .i64 0) (.int .i64 0) (.slice none 0 0)) HD.out.bl.size fun k e => by cases e; exact Nat.le_refl _)
    have hr6 := res6 (c0 := .int .i64 0) (c1 := .int .i64 0) (c2 := .int .i64 0) (c3 := .int .i64 0) (c4 := .int .i64 0) (c5 := .slice none 0 0) HD.out.rb
    obtain ⟨b1, off1, cap1, t0, hbP1, hle1, hmx1, k0, k1, k2, k3⟩ := HD.out.bx.tok
    obtain ⟨pf, p1, p2, p3⟩ := HD.out.bx.cells
    obtain ⟨u9, uf, u0, u1, u2, u3, u4, u5⟩ := fmO_cells HD.out.rb
    have hlt1 := HD.out.bx.lt
    unfold maxLen at hmx1
    generalize (tkP T s2.i).place = pl at *
    generalize s2.i = i1 at *
    generalize s2.e = er at *
    have q0 : (0 : Int) ≤ i1 := by omega
    have q1 : (i1 : Int) < T.length := by omega
    have hne : P ≠ w.heap.size := by omega
    have hne2 : w.heap.size ≠ P := by omega
    have hb1 : b1 ≠ w.heap.size := tok_apart HD.out.rb k1
    have hb2 : w.heap.size ≠ b1 := fun h => hb1 h.symm
    have r0 := hid (cell_of_heap (j := 0) hr6)
    have r1 := hid (cell_of_heap (j := 1) hr6)
    have r2 := hid (cell_of_heap (j := 2) hr6)
    have r3 := hid (cell_of_heap (j := 3) hr6)
    have r4 := hid (cell_of_heap (j := 4) hr6)
    have r5 := hid (cell_of_heap (j := 5) hr6)
    have hfin := hid hfin
    clear hr6 k0 k1 k2
    refine wp_region_held_drew (S := fun W => W.cell? ⟨P, 0, none⟩ = some (.slice (some ⟨b1, off1, none⟩) T.length cap1) ∧ W.cell? ⟨P, 1, none⟩ = some (.int .i64 i1) ∧ W.cell? ⟨P, 3, none⟩ = some (.int .i64 er) ∧ W.cell? ⟨b1, off1 + i1 * 4 + 3, none⟩ = some (.int .i64 pl)) (by kernel_rfl) ⟨t0, p1, p3, k3⟩ (fun hHeld => ?_)
    generalize World.drew X2 = X3 at HD t0 p1 p3 k3 pf uf u0 u1 u2 u3 u4 u5 u9 r0 r1 r2 r3 r4 r5 hfin hHeld ⊢
    refine takeL (i := 0) (v := ?_) rfl (by kernel_rfl) (by kernel_rfl) (by kernel_rfl) (fun _ _ _ h => h) (Or.inl ⟨by rfl, ?_⟩) (by assumption) ?_
    rotate_left
    focus (intro w hSw; go_simp; try with_reducible rfl)
    try simp only [Act.put, List.setIfInBounds_toArray, List.set_cons_zero, List.set_cons_succ]
    refine takeL (i := 1) (v := ?_) rfl (by kernel_rfl) (by kernel_rfl) (by kernel_rfl) (fun _ _ _ h => h) (Or.inl ⟨by rfl, ?_⟩) (by assumption) ?_
    rotate_left
    focus (intro w hSw; go_simp; try with_reducible rfl)
    try simp only [Act.put, List.setIfInBounds_toArray, List.set_cons_zero, List.set_cons_succ]
    refine takeL (i := 2) (v := ?_) rfl (by kernel_rfl) (by kernel_rfl) (by kernel_rfl) (fun _ _ _ h => h) (Or.inl ⟨by rfl, ?_⟩) (by assumption) ?_
    rotate_left
    focus (intro w hSw; go_simp; try with_reducible rfl)
    try simp only [Act.put, List.setIfInBounds_toArray, List.set_cons_zero, List.set_cons_succ]
    refine takeL (i := 3) (v := ?_) rfl (by kernel_rfl) (by kernel_rfl) (by kernel_rfl) (fun _ _ _ h => h) (Or.inl ⟨by rfl, ?_⟩) (by assumption) ?_
    rotate_left
    focus (intro w hSw; go_simp; try with_reducible rfl)
    try simp only [Act.put, List.setIfInBounds_toArray, List.set_cons_zero, List.set_cons_succ]
    refine takeL (i := 4) (v := ?_) rfl (by kernel_rfl) (by kernel_rfl) (by kernel_rfl) (fun _ _ _ h => h) (Or.inl ⟨by rfl, ?_⟩) (by assumption) ?_
    rotate_left
    focus (intro w hSw; go_simp; try with_reducible rfl)
    try simp only [Act.put, List.setIfInBounds_toArray, List.set_cons_zero, List.set_cons_succ]
    refine takeL (i := 5) (v := ?_) rfl (by kernel_rfl) (by kernel_rfl) (by kernel_rfl) (fun _ _ _ h => h) (Or.inl ⟨by rfl, ?_⟩) (by assumption) ?_
    rotate_left
    focus (intro w hSw; go_simp; try with_reducible rfl)
    try simp only [Act.put, List.setIfInBounds_toArray, List.set_cons_zero, List.set_cons_succ]
    refine takeL (i := 6) (v := ?_) rfl (by kernel_rfl) (by kernel_rfl) (by kernel_rfl) (fun _ _ _ h => h) (Or.inl ⟨by rfl, ?_⟩) (by assumption) ?_
    rotate_left
    focus (intro w hSw; go_simp; try with_reducible rfl)
    try simp only [Act.put, List.setIfInBounds_toArray, List.set_cons_zero, List.set_cons_succ]
    refine takeL (i := 7) (v := ?_) rfl (by kernel_rfl) (by kernel_rfl) (by kernel_rfl) (fun _ _ _ h => h) (Or.inl ⟨by rfl, ?_⟩) (by assumption) ?_
    rotate_left
    focus (intro w hSw; go_simp; try with_reducible rfl)
    try simp only [Act.put, List.setIfInBounds_toArray, List.set_cons_zero, List.set_cons_succ]
    refine takeL (i := 8) (v := ?_) rfl (by kernel_rfl) (by kernel_rfl) (by kernel_rfl) (fun _ _ _ h => h) (Or.inl ⟨by rfl, ?_⟩) (by assumption) ?_
    rotate_left
    focus (intro w hSw; go_simp; try with_reducible rfl)
    try simp only [Act.put, List.setIfInBounds_toArray, List.set_cons_zero, List.set_cons_succ]
    refine takeL (i := 9) (v := ?_) rfl (by kernel_rfl) (by kernel_rfl) (by kernel_rfl) (fun _ _ _ h => h) (Or.inl ⟨by rfl, ?_⟩) (by assumption) ?_
    rotate_left
    focus (intro w hSw; go_simp; try with_reducible rfl)
    try simp only [Act.put, List.setIfInBounds_toArray, List.set_cons_zero, List.set_cons_succ]
    refine takeL (i := 10) (v := ?_) rfl (by kernel_rfl) (by kernel_rfl) (by kernel_rfl) (fun _ _ _ h => h) (Or.inl ⟨by rfl, ?_⟩) (by assumption) ?_
    rotate_left
    focus (intro w hSw; go_simp; try with_reducible rfl)
    try simp only [Act.put, List.setIfInBounds_toArray, List.set_cons_zero, List.set_cons_succ]
    refine takeL (i := 11) (v := ?_) rfl (by kernel_rfl) (by kernel_rfl) (by kernel_rfl) (fun _ _ _ h => h) (Or.inl ⟨by rfl, ?_⟩) (by assumption) ?_
    rotate_left
    focus (intro w hSw; go_simp; try with_reducible rfl)
    try simp only [Act.put, List.setIfInBounds_toArray, List.set_cons_zero, List.set_cons_succ]
    refine takeL (i := 12) (v := ?_) rfl (by kernel_rfl) (by kernel_rfl) (by kernel_rfl) (fun _ _ _ h => h) (Or.inl ⟨by rfl, ?_⟩) (by assumption) ?_
    rotate_left
    focus (intro w hSw; go_simp; try with_reducible rfl)
    try simp only [Act.put, List.setIfInBounds_toArray, List.set_cons_zero, List.set_cons_succ]
    refine takeL (i := 13) (v := ?_) rfl (by kernel_rfl) (by kernel_rfl) (by kernel_rfl) (fun _ _ _ h => h) (Or.inl ⟨by rfl, ?_⟩) (by assumption) ?_
    rotate_left
    focus (intro w hSw; go_simp; try with_reducible rfl)
    try simp only [Act.put, List.setIfInBounds_toArray, List.set_cons_zero, List.set_cons_succ]
    refine takeL (i := 14) (v := ?_) rfl (by kernel_rfl) (by kernel_rfl) (by kernel_rfl) (fun _ _ _ h => h) (Or.inl ⟨by rfl, ?_⟩) (by assumption) ?_
    rotate_left
    focus (intro w hSw; go_simp; try with_reducible rfl)
    try simp only [Act.put, List.setIfInBounds_toArray, List.set_cons_zero, List.set_cons_succ]
    refine takeL (i := 15) (v := ?_) rfl (by kernel_rfl) (by kernel_rfl) (by kernel_rfl) (fun _ _ _ h => h) (Or.inl ⟨by rfl, ?_⟩) (by assumption) ?_
    rotate_left
    focus (intro w hSw; go_simp; try with_reducible rfl)
    try simp only [Act.put, List.setIfInBounds_toArray, List.set_cons_zero, List.set_cons_succ]
    refine callL (i := 16) (by kernel_rfl) rfl (fun K hQ => ?_)
    go_simp
    refine hQ.out _ _ ⟨by go_simp, by go_simp, by go_simp, by go_simp⟩ (fun hHeld => ?_)
    clear hQ
    try simp only [Act.put, List.setIfInBounds_toArray, List.set_cons_zero, List.set_cons_succ]
    refine callL (i := 17) (by kernel_rfl) rfl (fun K hQ => ?_)
    go_simp
    refine hQ.out _ _ ⟨by go_simp, by go_simp, by go_simp, by go_simp⟩ (fun hHeld => ?_)
    clear hQ
    try simp only [Act.put, List.setIfInBounds_toArray, List.set_cons_zero, List.set_cons_succ]
    refine callL (i := 18) (by kernel_rfl) rfl (fun K hQ => ?_)
    go_simp
    refine hQ.out _ _ ⟨by go_simp, by go_simp, by go_simp, by go_simp⟩ (fun hHeld => ?_)
    clear hQ
    try simp only [Act.put, List.setIfInBounds_toArray, List.set_cons_zero, List.set_cons_succ]
    refine wpAnyH_done (by kernel_rfl) ?_ _
    clear hHeld
    go_wp2_with fail
    have r0 := r0.out
    have r1 := r1.out
    have r2 := r2.out
    have r3 := r3.out
    have r4 := r4.out
    have r5 := r5.out
    simp at r0 r1 r2 r3 r4 r5
    exact bodyPost_ret (v := .tuple #[.agg #[.int .i64 0, .int .i64 0, .int .i64 0, .int .i64 0, .int .i64 0, .slice none 0 0], .int .i64 er, .int .i64 pl]) (by simp [results, Tryz.results22, go_sem, r0, r1, r2, r3, r4, r5]) rfl hfin.out
  · have he : s2.e = 0 := by simpa using he
    have hse : (s2.e != 0) = false := by simpa using he
    have hpr : pr = (f, 0, 0) := by
      rw [Hpr.out, Hdoc.out, if_neg (fun h => h he)]
    have hg := six_grown X2 w.heap.size (.int .i64 f.kind) (.int .i64 f.prop.k) (.int .i64 f.prop.t) (.int .i64 f.prop.a) (.int .i64 f.prop.n) (.slice fa f.kids.length fc)
    have hfin := hid (HPf.out f fa fc _ hpr (HX.out.bl.grown hg HX.out.bl.size fun k e => by cases e; exact Nat.le_refl _) ((HX.out.fm.keep fun b o hb => World.cell?_of_block (w := X2) (a := ⟨b, o, none⟩) (hg.block b hb.2 (by have := hb.1; simp; omega))).widen fun b hb => Nat.lt_of_lt_of_le hb.2 hg.size))
    have hr6 := res6 (c0 := .int .i64 f.kind) (c1 := .int .i64 f.prop.k) (c2 := .int .i64 f.prop.t) (c3 := .int .i64 f.prop.a) (c4 := .int .i64 f.prop.n) (c5 := .slice fa f.kids.length fc) HX.out.rb
    obtain ⟨u9, uf, u0, u1, u2, u3, u4, u5⟩ := fmO_cells HX.out.rb
    obtain ⟨z9, zf, z0, z1, z2, z3, z4, z5⟩ := fmO_cells HX.out.fb
    have hne : w.heap.size ≠ F := by omega
    have hne2 : F ≠ w.heap.size := by omega
    have r0 := hid (cell_of_heap (j := 0) hr6)
    have r1 := hid (cell_of_heap (j := 1) hr6)
    have r2 := hid (cell_of_heap (j := 2) hr6)
    have r3 := hid (cell_of_heap (j := 3) hr6)
    have r4 := hid (cell_of_heap (j := 4) hr6)
    have r5 := hid (cell_of_heap (j := 5) hr6)
    clear hr6 hg hpr he HX
    generalize f.kind = fk at *
    generalize f.prop.k = pk at *
    generalize f.prop.t = pt at *
    generalize f.prop.a = pa at *
    generalize f.prop.n = pn at *
    generalize f.kids.length = kl at *
    go_wp2_with fail
    have r0 := r0.out
    have r1 := r1.out
    have r2 := r2.out
    have r3 := r3.out
    have r4 := r4.out
    have r5 := r5.out
    simp at r0 r1 r2 r3 r4 r5
    exact bodyPost_ret (v := .tuple #[.agg #[.int .i64 fk, .int .i64 pk, .int .i64 pt, .int .i64 pa, .int .i64 pn, .slice fa kl fc], .int .i64 0, .int .i64 0]) (by simp [results, Tryz.results22, go_sem, r0, r1, r2, r3, r4, r5]) rfl hfin.out
end Go.Proofs.YtogopcejapklgaaGreatDoor
