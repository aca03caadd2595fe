/- The maker of formulas by numbers: what it makes may be. -/
import Derived.Test.YtogopcejapklgaaGreatDoorBunK
import Derived.Deep.CutRange
namespace Go.Proofs.YtogopcejapklgaaGreatDoor
open Go Go.RowKit

/-- In the maker: the boxes of the answer and of the formula. -/
structure MIn (w x : World) (n : Nat) (N : Nums) (c t : Int) (F : Nat) (k : Int) (p : Pr) (v : Value) : Prop where
  but : MBut n w x
  st : MSt x n N c t
  rb : x.heap[w.heap.size]? = some (fmO 0 Pr.zero (.slice none 0 0))
  fb : x.heap[F]? = some (fmO k p v)
  lt : n + 5 < w.heap.size ∧ w.heap.size < F
namespace MIn
variable {w x y : World} {n F : Nat} {N : Nums} {c t c' t' k : Int} {p : Pr} {v : Value}
theorem szF (h : MIn w x n N c t F k p v) : F < x.heap.size := (Array.getElem?_eq_some_iff.1 h.fb).1
theorem next (h : MIn w x n N c t F k p v) {r : Option Nat} (g : x.grownBy y r) (hr : ∀ j, r = some j → j = n + 1 ∨ j = n + 3 ∨ F < j) (hs : MSt y n N c' t') : MIn w y n N c' t' F k p v := by
  have hl := h.lt
  have hF := h.szF
  have hk : ∀ b, n + 5 < b → b ≤ F → y.heap[b]? = x.heap[b]? := fun b h1 h2 => g.block b (by omega) fun e => by rcases hr b e.symm with h | h | h <;> omega
  exact ⟨h.but.next g fun k e => by rcases hr k e with h | h | h <;> omega, hs, (hk _ hl.1 (by omega)).trans h.rb, (hk _ (by omega) (Nat.le_refl _)).trans h.fb, hl⟩
theorem drew (h : MIn w x n N c t F k p v) : MIn w x.drew n N c t F k p v := h.next (r := none) (grown_drew (grown_refl _ _)) (fun _ e => by cases e) h.st.drew
theorem alloc (h : MIn w x n N c t F k p v) (o : Obj) : MIn w (x.alloc o) n N c t F k p v := h.next (World.grownBy_alloc x o none) (fun _ e => by cases e) (h.st.alloc o)
theorem put (h : MIn w x n N c t F k p v) {i : Nat} (hi : 1 ≤ i ∧ i ≤ 3) (z : Int) : MIn w (x.setCell ⟨F, 1 + i, none⟩ (.int .i64 z)) n N c t F k (p.put i z) v := by
  have hl := h.lt
  exact ⟨h.but.next (grown_set _ _ _ _) fun k e => by cases e; omega, h.st.set (by omega) _, (Below.heap_setCell _ _ _ _ (by simp; omega)).trans h.rb, fmO_put hi h.fb z, hl⟩
theorem putK (h : MIn w x n N c t F k p v) (z : Int) : MIn w (x.setCell ⟨F, 1, none⟩ (.int .i64 z)) n N c t F k ⟨z, p.t, p.a, p.n⟩ v := by
  have hl := h.lt
  have hb := h.fb
  refine ⟨h.but.next (grown_set _ _ _ _) fun k e => by cases e; omega, h.st.set (by omega) _, (Below.heap_setCell _ _ _ _ (by simp; omega)).trans h.rb, ?_, hl⟩
  simp [World.setCell, Array.getElem?_modify, hb, fmO]
theorem putV (h : MIn w x n N c t F k p v) (u : Value) : MIn w (x.setCell ⟨F, 5, none⟩ u) n N c t F k p u := by
  have hl := h.lt
  have hb := h.fb
  refine ⟨h.but.next (grown_set _ _ _ _) fun k e => by cases e; omega, h.st.set (by omega) _, (Below.heap_setCell _ _ _ _ (by simp; omega)).trans h.rb, ?_, hl⟩
  simp [World.setCell, Array.getElem?_modify, hb, fmO]
/-- A number has been picked. -/
theorem pick (h : MIn w x n N c t F k p v) (g : x.grownBy y (some (n + 3))) (hs : MSt y n N c' t') : MIn w y n N c' t' F k p v := h.next g (fun _k e => .inr (.inl (Option.some.inj e).symm)) hs
theorem six (h : MIn w x n N c t F k p v) : (∀ o, x.frozen? ⟨F, o, none⟩ = false) ∧ x.cell? ⟨F, 0, none⟩ = some (.int .i64 k) ∧ x.cell? ⟨F, 1, none⟩ = some (.int .i64 p.k) ∧ x.cell? ⟨F, 2, none⟩ = some (.int .i64 p.t) ∧ x.cell? ⟨F, 3, none⟩ = some (.int .i64 p.a) ∧ x.cell? ⟨F, 4, none⟩ = some (.int .i64 p.n) ∧ x.cell? ⟨F, 5, none⟩ = some v := by
  obtain ⟨-, yf, y0, y1, y2, y3, y4, y5⟩ := fmO_cells h.fb
  exact ⟨yf, y0, y1, y2, y3, y4, y5⟩
end MIn

/-- What the maker leaves. -/
def MkP (w : World) (n : Nat) (N : Nums) (c _t : Int) (d : Nat) (e : Ending) (w' : World) : Prop :=
  ∃ (f : Fm) (a : Option Addr) (cap : Nat) (c' t' : Int), e = .returned (.agg #[.int .i64 f.kind, .int .i64 f.prop.k, .int .i64 f.prop.t, .int .i64 f.prop.a, .int .i64 f.prop.n, .slice a f.kids.length cap]) ∧
    okD (d + 1) f ∧ f.size < 2 ^ (d + 1) ∧ FmIn w' (New w w') (fmC f.kind f.prop a f.kids.length cap) f ∧ MSt w' n N c' t' ∧ c ≤ c' ∧ c' + 5 ≤ c + 5 * 2 ^ (d + 1) ∧ MBut n w w'
/-- So many numbers have been picked. -/
def BndC (c c' : Int) (d j : Nat) : Prop := c ≤ c' ∧ (j = 0 ∧ c' ≤ c + 5 ∨ j = 1 ∧ c' ≤ c + 5 * 2 ^ d ∨ j = 2 ∧ c' + 5 ≤ c + 10 * 2 ^ d)
theorem two_pos (d : Nat) : (1 : Int) ≤ 2 ^ d ∧ (2 : Int) ^ (d + 1) = 2 * 2 ^ d := by
  have h := Nat.pow_pos (n := d) (show 0 < 2 by omega)
  refine ⟨by exact_mod_cast h, by rw [Int.pow_succ, Int.mul_comm]⟩
theorem sizeL_le {P : Nat} : ∀ (l : List Fm), (∀ f ∈ l, f.size < P) → Fm.sizeL l + l.length ≤ l.length * P
  | [], _ => by rw [Fm.sizeL_nil]; simp
  | f :: l, h => by
    have h1 := h f (by simp)
    have h2 := sizeL_le l fun g hg => h g (by simp [hg])
    rw [Fm.sizeL_cons, List.length_cons, Nat.add_mul]
    omega
theorem ownsRow_blk {w w' : World} {B : Nat} {T : TypeId} {sz n : Nat} {v : Value} {xs : List Value} (h : w.ownsRow B T sz v n xs) (hk : ∀ g, v.ownBlock = some g → w'.heap[g]? = w.heap[g]?) : w'.ownsRow B T sz v n xs := by
  obtain ⟨h1, h2⟩ := h
  refine ⟨h1, ?_⟩
  rcases h2 with h2 | ⟨g, cap, cur, rfl, q1, q2, q3⟩
  · exact .inl h2
  · exact .inr ⟨g, cap, cur, rfl, q1, (hk g rfl).trans q2, q3⟩
theorem Kds.keepB {w w' : World} {base : Nat} {v : Value} {l : List Fm} (h : Kds w base v l) (hs : w.heap.size ≤ w'.heap.size) (hk : ∀ b, base ≤ b → b < w.heap.size → w'.heap[b]? = w.heap[b]?) : Kds w' base v l := by
  obtain ⟨LL, h0, h1, h2⟩ := h
  exact ⟨LL, h0, ownsRow_blk h1 fun g hg => hk g (h1.lt g hg).1 (h1.lt g hg).2, fun y hy => ((h2 y hy).keep fun b o hb => World.cell?_of_block (w := w) (a := ⟨b, o, none⟩) (hk b hb.1 hb.2.1)).widen fun b hb => ⟨hb.1, by have := hb.2.1; omega, hb.2.2⟩⟩
namespace MIn
variable {w x y : World} {n F : Nat} {N : Nums} {c t c' t' c2 t2 k : Int} {p : Pr} {v : Value} {l : List Fm} {d : Nat}
theorem made (h : MIn w x n N c t F k p v) (g : MBut n x y) (hs : MSt y n N c' t') : MIn w y n N c' t' F k p v := by
  have hl := h.lt
  have hF := h.szF
  exact ⟨h.but.trans g, hs, (g.block _ (by omega) (by omega) (by omega)).trans h.rb, (g.block _ hF (by omega) (by omega)).trans h.fb, hl⟩
theorem kds (h : MIn w x n N c t F k p v) (g : MBut n x y) (hK : Kds x (F + 1) v l) : Kds y (F + 1) v l := by
  have hl := h.lt
  exact hK.keepB g.size fun b h1 h2 => g.block b h2 (by omega) (by omega)
/-- What has been made is made. -/
theorem fin {a : Option Addr} {cap : Nat} (h : MIn w x n N c2 t2 F k p (.slice a l.length cap)) (hK : Kds x (F + 1) (.slice a l.length cap) l) (hl : l.length = frmK k) (hk : 1 ≤ k ∧ k ≤ 12) (h3 : k = 3 → okP p) (hz : k ≠ 3 → p = Pr.zero)
    (hkd : ∀ f ∈ l, okD d f ∧ f.size < 2 ^ d) (hc : BndC c c2 d l.length) (hg : x.grownBy y (some w.heap.size)) :
    MkP w n N c t d (.returned (.agg #[.int .i64 k, .int .i64 p.k, .int .i64 p.t, .int .i64 p.a, .int .i64 p.n, .slice a l.length cap])) y := by
  have hlt := h.lt
  obtain ⟨hp1, hp2⟩ := two_pos d
  obtain ⟨hc1, hc2⟩ := hc
  have hsz := sizeL_le (P := 2 ^ d) l fun f hf => (hkd f hf).2
  have hkl := frmK_le k
  have wp : p.wf := by
    by_cases e : k = 3
    · exact okP_wf (h3 e)
    · rw [hz e]; exact ⟨by decide, by decide, by decide, by decide⟩
  have hrow := (Kds.row hK).2
  have wk : (Lit.int .i64 k).wf = true := WalkArith.wf_i64 (by omega)
  refine ⟨.mk k p l, a, cap, c2, t2, rfl, ?_, ?_, ?_, ?_, hc1, ?_, ?_⟩
  · rw [okD_succ]
    refine ⟨?_, okL_of fun f hf => (hkd f hf).1⟩
    by_cases e : k = 3
    · subst e
      exact .inl ⟨rfl, h3 rfl, List.eq_nil_of_length_eq_zero (by rw [hl]; rfl)⟩
    · refine .inr ⟨?_, hz e, hl⟩
      unfold isFrm
      omega
  · rw [Fm.size_eq, Nat.pow_succ]
    have hP : 1 ≤ 2 ^ d := Nat.pow_pos (by omega)
    generalize 2 ^ d = P at *
    have : l.length = 0 ∨ l.length = 1 ∨ l.length = 2 := by omega
    rcases this with e | e | e <;> rw [e] at hsz <;> omega
  · refine FmIn.shut wk wp ((hrow.keep fun b o hb => ?_).widen fun b hb => ⟨by omega, by have := hg.size; omega⟩)
    exact World.cell?_of_block (w := x) (a := ⟨b, o, none⟩) (hg.block b hb.2 (by simp; omega))
  · exact h.st.next hg fun k e => by cases e; omega
  · rw [hp2]; rcases hc2 with ⟨e, h⟩ | ⟨e, h⟩ | ⟨e, h⟩ <;> omega
  · exact h.but.next hg fun k e => by cases e; omega
end MIn

/-- The maker's contract, of so much depth. -/
def MakeAt (d : Nat) : Prop := ∀ (n : Nat) (N : Nums) (c t : Int) (w : World), MSt w n N c t → c + 5 * 2 ^ (d + 1) ≤ 1000 →
  Calls Tryz.prog 18 #[.int .i64 d, .pointer (some ⟨n + 4, 0, none⟩), .pointer (some ⟨n + 3, 0, none⟩), .pointer (some ⟨n, 0, none⟩), .pointer (some ⟨n + 1, 0, none⟩), .pointer (some ⟨n + 5, 0, none⟩)] w (MkP w n N c t d)

set_option maxRecDepth 100000 in
set_option maxHeartbeats 8000000 in
theorem make_step (d : Nat) (hd : d ≤ 5) (ih : ∀ e, d = e + 1 → MakeAt e) : MakeAt d := by
  intro n N c t w hM hc
  have hp : 2 ≤ 2 ^ (d + 1) := by rw [Nat.pow_succ]; have := Nat.pow_pos (n := d) (show 0 < 2 by omega); omega
  have hs := hM.sz
  have hc0 := hM.c0
  have ht0 := hM.t0
  have hc5 : c ≤ 990 := by
    have h2 : (2 : Int) ≤ 2 ^ (d + 1) := by exact_mod_cast hp
    omega
  have HM := hid hM
  have Hih := hid ih
  have Hc := hid hc
  have Hp := hid hp
  clear hM ih hc hp
  go_enter Tryz.func18, Tryz.ntmps18
  go_upto_region 1 with fail
  generalize hW : World.alloc w _ = W0
  have HB0 : Hid (MBut n w W0) := by subst hW; exact MBut.of (World.grownBy_alloc w _ none) fun _ e => by cases e
  have HM0 : Hid (MSt W0 n N c t) := by subst hW; exact hid (HM.out.alloc _)
  have HR0 : Hid (W0.heap[w.heap.size]? = some (fmO 0 Pr.zero (.slice none 0 0))) := by subst hW; exact alloc_at rfl
  clear hW HM
  have q0 := HM0.out.p0
  go_upto_region 2 with (first
    | (go_at_call 17
       refine (pick_m W0 n N c t 12 HM0.out (by omega) (by omega)).mono ?_
       rintro e W1 ⟨r, rfl, hr0, hr1, hM1, hg1, hz1⟩
       have HM1 := hid hM1
       have HG1 := hid hg1
       clear hM1 hg1)
    | fail)
  have HB1 := hid (HB0.out.next HG1.out fun k e => .inr (.inl (Option.some.inj e).symm))
  have HR1 : Hid (W1.heap[w.heap.size]? = some (fmO 0 Pr.zero (.slice none 0 0))) := hid ((HG1.out.block _ (Array.getElem?_eq_some_iff.1 HR0.out).1 (by simp; omega)).trans HR0.out)
  clear HG1 HR0 HB0 HM0 q0
  have hkr : 1 ≤ 1 + r ∧ 1 + r ≤ 12 := by omega
  have hwr : IntKind.i64.wrap (1 + r) = 1 + r := IntWalk.i64_in _ (by omega)
  generalize 1 + r = k0 at *
  have hcs := HM1.out.by_.1
  have q0 := HM1.out.p0
  have q1 := HM1.out.pm
  have q2 := HM1.out.pa
  have q3 := HM1.out.pl
  have q4 := HM1.out.pt
  go_cut [33] from 11 to 32 (fun v wx => ∃ bb : Bool, v = .bool bb ∧ (bb = false → d ≠ 0 ∧ (8 ≤ k0 → 1 ≤ t)) ∧ wx = W1)
  case first =>
    by_cases e0 : (d : Int) = 0
    · have b0 : ((d : Int) == 0) = true := by simpa using e0
      go_wp2_with fail
      go_meet
      case rel => exact ⟨true, rfl, fun h => (by cases h), rfl⟩
    have b0 : ((d : Int) == 0) = false := by simpa using e0
    have hd0 : d ≠ 0 := by omega
    by_cases e1 : (N.cs.length : Int) ≤ c + 1
    · have b1 : decide ((N.cs.length : Int) ≤ c + 1) = true := decide_eq_true e1
      go_wp2_with fail
      go_meet
      case rel => exact ⟨true, rfl, fun h => (by cases h), rfl⟩
    have b1 : decide ((N.cs.length : Int) ≤ c + 1) = false := decide_eq_false e1
    by_cases e2 : 20 < c + 1
    · have b2 : decide (20 < c + 1) = true := decide_eq_true e2
      go_wp2_with fail
      go_meet
      case rel => exact ⟨true, rfl, fun h => (by cases h), rfl⟩
    have b2 : decide (20 < c + 1) = false := decide_eq_false e2
    by_cases e3 : 8 ≤ k0
    · have b3 : decide (8 ≤ k0) = true := decide_eq_true e3
      by_cases e4 : t < 1
      · have b4 : decide (t < 1) = true := decide_eq_true e4
        go_wp2_with fail
        go_meet
        case rel => exact ⟨true, rfl, fun h => (by cases h), rfl⟩
      have b4 : decide (t < 1) = false := decide_eq_false e4
      go_wp2_with fail
      go_meet
      case rel => exact ⟨false, rfl, fun _ => ⟨hd0, fun _ => by omega⟩, rfl⟩
    have b3 : decide (8 ≤ k0) = false := decide_eq_false e3
    go_wp2_with fail
    go_meet
    case rel => exact ⟨false, rfl, fun _ => ⟨hd0, fun h => by omega⟩, rfl⟩
  case rest =>
  obtain ⟨bb, rfl, hbb0, hwc⟩ := hcut
  have hbb := hid hbb0
  clear hbb0
  subst hwc
  go_upto_if 33 with fail
  go_cut [8] from 33 to 33 (fun v wx => ∃ k : Int, v = .int .i64 k ∧ 1 ≤ k ∧ k ≤ 12 ∧ (k ≠ 3 → d ≠ 0) ∧ (8 ≤ k → 1 ≤ t) ∧ wx = wc)
  case first =>
    cases bb with
    | true =>
      go_wp2_with fail
      go_meet
      case rel => exact ⟨3, rfl, by omega, by omega, fun h => absurd rfl h, fun h => by omega, rfl⟩
    | false =>
      obtain ⟨hb1, hb2⟩ := hbb.out rfl
      have hb1 := hid hb1
      have hb2 := hid hb2
      go_wp2_with fail
      go_meet
      case rel => exact ⟨k0, rfl, hkr.1, hkr.2, fun _ => hb1.out, hb2.out, rfl⟩
  case rest =>
  obtain ⟨k, rfl, hk1, hk2, hk3, hk8, hwd⟩ := hcut
  rename World => W2
  subst hwd
  go_upto_if 35 with fail
  clear q0 q1 q2 q3
  generalize hb8 : decide (8 ≤ k) = b8
  have Hb8 := hid hb8
  clear hb8
  go_cut [8] from 36 to 37 (fun v wx => v = .int .i64 k ∧ ∃ t' : Int, MSt wx n N (c + 1) t' ∧ MBut n W2 wx)
  case first =>
    cases b8 with
    | true =>
      have ht := hk8 (of_decide_eq_true Hb8.out)
      have qf := HM1.out.ft
      have hwt : IntKind.i64.wrap (t - 1) = t - 1 := IntWalk.i64_in _ (by omega)
      clear Hb8
      go_wp2_with fail
      go_meet
      case rel => exact ⟨rfl, t - 1, HM1.out.times (by omega), MBut.of (grown_set _ _ _ _) fun k e => .inl (Option.some.inj e).symm⟩
    | false =>
      clear Hb8
      go_wp2_with fail
      go_meet
      case rel => exact ⟨rfl, t, HM1.out, MBut.refl _ _⟩
  case rest =>
  obtain ⟨rfl, t', hMc, hBc⟩ := hcut
  rename World => W3
  have HM3 := hid hMc
  have HB3 := hid (HB1.out.trans hBc)
  have hR1 := (Array.getElem?_eq_some_iff.1 HR1.out).1
  have HR3 : Hid (W3.heap[w.heap.size]? = some (fmO 0 Pr.zero (.slice none 0 0))) := hid ((hBc.block _ hR1 (by omega) (by omega)).trans HR1.out)
  have hz3 := (Array.getElem?_eq_some_iff.1 HR3.out).1
  clear hMc hBc HM1 HB1 HR1 hR1 q4
  go_upto_region 7 with fail
  generalize hW : World.alloc W3 _ = W4
  have H4 : Hid (MIn w W4 n N (c + 1) t' W3.heap.size k Pr.zero (.slice none 0 0)) := by
    subst hW
    exact hid ⟨HB3.out.next (World.grownBy_alloc W3 _ none) (fun _ e => by cases e), HM3.out.alloc _, (Below.heap_alloc _ _ _ hz3).trans HR3.out, alloc_at rfl, by omega, hz3⟩
  have hbase : W4.heap.size = W3.heap.size + 1 := by subst hW; simp
  generalize W3.heap.size = F at *
  clear hW HM3 HB3 HR3
  obtain ⟨yf, y0, y1, y2, y3, y4, y5⟩ := H4.out.six
  go_upto_if 41 with fail
  generalize hb3 : (k == 3) = b3
  have Hb3 := hid hb3
  clear hb3
  go_cut [8] from 42 to 90 (fun v wx => v = .int .i64 k ∧ ∃ (p : Pr) (c' : Int), MIn w wx n N c' t' F k p (.slice none 0 0) ∧ (k = 3 → okP p) ∧ (k ≠ 3 → p = Pr.zero) ∧ c ≤ c' ∧ c' ≤ c + 5 ∧ wx.heap.size = F + 1)
  case first =>
    cases b3 with
    | false =>
      have hk : k ≠ 3 := by have := Hb3.out; simpa using this
      have hk' := hid hk
      clear hk Hb3
      go_wp2_with fail
      go_meet
      case rel => exact ⟨rfl, Pr.zero, c + 1, H4.out, fun h => absurd h hk'.out, fun _ => rfl, by omega, by omega, hbase⟩
    | true =>
      have hk : k = 3 := by have := Hb3.out; simpa using this
      subst hk
      clear Hb3 hk3 hk8
      have q0 := H4.out.st.p0
      go_upto_region 9 with (first
        | (go_at_call 17
           refine (pick_m W4 n N (c + 1) t' 6 H4.out.st (by omega) (by omega)).mono ?_
           rintro e W5 ⟨r5, rfl, hr50, hr51, hM5, hg5, hz5⟩
           have H5 := hid (H4.out.pick hg5 hM5)
           obtain ⟨xf, x0, x1, x2, x3, x4, x5⟩ := H5.out.six
           have hw5 : IntKind.i64.wrap (1 + r5) = 1 + r5 := IntWalk.i64_in _ (by omega)
           clear hM5 hg5)
        | fail)
      generalize hW : World.setCell W5 _ _ = W6
      have H6 : Hid (MIn w W6 n N (c + 1 + 1) t' F 3 ⟨1 + r5, 0, 0, 0⟩ (.slice none 0 0)) := by subst hW; exact hid (H5.out.putK _)
      have hz6 : W6.heap.size = F + 1 := by subst hW; simp; omega
      clear hW H5 hz5 hw5 q0 yf y0 y1 y2 y3 y4 y5
      try clear xf x0 x1 x2 x3 x4 x5
      have hcase : 1 + r5 = 1 ∨ 1 + r5 = 2 ∨ 1 + r5 = 3 ∨ 1 + r5 = 4 ∨ 1 + r5 = 5 ∨ 1 + r5 = 6 := by omega
      generalize 1 + r5 = pk at *
      have q0 := H6.out.st.p0
      rcases hcase with rfl | rfl | rfl | rfl | rfl | rfl
      · obtain ⟨xf, x0, x1, x2, x3, x4, x5⟩ := H6.out.six
        go_upto_region 11 with fail
        have H := hid H6.out.drew
        have hzx : W6.drew.heap.size = F + 1 := hz6
        clear xf x0 x1 x2 x3 x4 x5 H6 hz6
        refine wp_region_held_drew (S := fun W => W.cell? ⟨n + 4, 0, none⟩ = some (pickV n)) (by kernel_rfl) q0 (fun hHeld => ?_)
        generalize World.drew W6 = x0w at H hzx q0 hHeld ⊢
        refine takeL (i := 0) (v := ?_) rfl (by kernel_rfl) (by kernel_rfl) (by kernel_rfl) (fun _ _ _ h => h) (Or.inl ⟨by rfl, ?_⟩) (by assumption) ?_
        rotate_left
        focus (intro w hSw; go_simp; try with_reducible rfl)
        try simp only [Act.put, List.setIfInBounds_toArray, List.set_cons_zero, List.set_cons_succ]
        refine takeL (i := 2) (v := ?_) rfl (by kernel_rfl) (by kernel_rfl) (by kernel_rfl) (fun _ _ _ h => h) (Or.inl ⟨by rfl, ?_⟩) (by assumption) ?_
        rotate_left
        focus (intro w hSw; go_simp; try with_reducible rfl)
        try simp only [Act.put, List.setIfInBounds_toArray, List.set_cons_zero, List.set_cons_succ]
        refine callL (i := 1) (by kernel_rfl) rfl (fun K hQ => ?_)
        go_simp
        go_at_call 17
        refine (pick_m x0w n N (c + 1 + 1) t' 2 H.out.st (by omega) (by omega)).mono ?_
        rintro e x1w ⟨u0, rfl, hu00, hu01, hM7, hg7, hz7⟩
        have hzx : x1w.heap.size = F + 1 := by omega
        have H := hid (H.out.pick hg7 hM7)
        have q0 := H.out.st.p0
        clear hM7 hg7 hz7
        refine hQ.out _ _ q0 (fun hHeld => ?_)
        clear hQ
        try simp only [Act.put, List.setIfInBounds_toArray, List.set_cons_zero, List.set_cons_succ]
        refine takeL (i := 4) (v := ?_) rfl (by kernel_rfl) (by kernel_rfl) (by kernel_rfl) (fun _ _ _ h => h) (Or.inl ⟨by rfl, ?_⟩) (by assumption) ?_
        rotate_left
        focus (intro w hSw; go_simp; try with_reducible rfl)
        try simp only [Act.put, List.setIfInBounds_toArray, List.set_cons_zero, List.set_cons_succ]
        refine takeL (i := 5) (v := ?_) rfl (by kernel_rfl) (by kernel_rfl) (by kernel_rfl) (fun _ _ _ h => h) (Or.inl ⟨by rfl, ?_⟩) (by assumption) ?_
        rotate_left
        focus (intro w hSw; go_simp; try with_reducible rfl)
        try simp only [Act.put, List.setIfInBounds_toArray, List.set_cons_zero, List.set_cons_succ]
        refine callL (i := 3) (by kernel_rfl) rfl (fun K hQ => ?_)
        go_simp
        go_at_call 17
        refine (pick_m x1w n N (c + 1 + 1 + 1) t' 2 H.out.st (by omega) (by omega)).mono ?_
        rintro e x2w ⟨u1, rfl, hu10, hu11, hM7, hg7, hz7⟩
        have hzx : x2w.heap.size = F + 1 := by omega
        have H := hid (H.out.pick hg7 hM7)
        have q0 := H.out.st.p0
        clear hM7 hg7 hz7
        refine hQ.out _ _ q0 (fun hHeld => ?_)
        clear hQ
        try simp only [Act.put, List.setIfInBounds_toArray, List.set_cons_zero, List.set_cons_succ]
        obtain ⟨xf, x0, x1, x2, x3, x4, x5⟩ := H.out.six
        have hne : n + 4 ≠ F := by have := H.out.lt; omega
        have hne' : F ≠ n + 4 := by omega
        have hFx := H.out.szF
        refine callL (i := 6) (by kernel_rfl) rfl (fun K hQ => ?_)
        go_simp
        refine hQ.out _ _ (by go_simp) (fun hHeld => ?_)
        clear hQ
        try simp only [Act.put, List.setIfInBounds_toArray, List.set_cons_zero, List.set_cons_succ]
        refine takeL (i := 7) (v := ?_) rfl (by kernel_rfl) (by kernel_rfl) (by kernel_rfl) (fun _ _ _ h => h) (Or.inl ⟨by rfl, ?_⟩) (by assumption) ?_
        rotate_left
        focus (intro w hSw; go_simp; try with_reducible rfl)
        try simp only [Act.put, List.setIfInBounds_toArray, List.set_cons_zero, List.set_cons_succ]
        refine takeL (i := 8) (v := ?_) rfl (by kernel_rfl) (by kernel_rfl) (by kernel_rfl) (fun _ _ _ h => h) (Or.inl ⟨by rfl, ?_⟩) (by assumption) ?_
        rotate_left
        focus (intro w hSw; go_simp; try with_reducible rfl)
        try simp only [Act.put, List.setIfInBounds_toArray, List.set_cons_zero, List.set_cons_succ]
        refine callL (i := 9) (by kernel_rfl) rfl (fun K hQ => ?_)
        go_simp
        refine hQ.out _ _ (by go_simp) (fun hHeld => ?_)
        clear hQ
        try simp only [Act.put, List.setIfInBounds_toArray, List.set_cons_zero, List.set_cons_succ]
        refine wpAnyH_done (by kernel_rfl) ?_ _
        go_wp2_with fail
        go_meet
        case rel => exact ⟨rfl, _, _, ((H.out.put (i := 2) (by omega) u0).put (i := 3) (by omega) u1), fun _ => (show okP ⟨1, 0, u0, u1⟩ from okP1 (by omega) (by omega)), fun h => absurd rfl h, by omega, by omega, by simp; omega⟩
      · obtain ⟨xf, x0, x1, x2, x3, x4, x5⟩ := H6.out.six
        go_upto_region 13 with fail
        have H := hid H6.out.drew
        have hzx : W6.drew.heap.size = F + 1 := hz6
        clear xf x0 x1 x2 x3 x4 x5 H6 hz6
        refine wp_region_held_drew (S := fun W => W.cell? ⟨n + 4, 0, none⟩ = some (pickV n)) (by kernel_rfl) q0 (fun hHeld => ?_)
        generalize World.drew W6 = x0w at H hzx q0 hHeld ⊢
        refine takeL (i := 0) (v := ?_) rfl (by kernel_rfl) (by kernel_rfl) (by kernel_rfl) (fun _ _ _ h => h) (Or.inl ⟨by rfl, ?_⟩) (by assumption) ?_
        rotate_left
        focus (intro w hSw; go_simp; try with_reducible rfl)
        try simp only [Act.put, List.setIfInBounds_toArray, List.set_cons_zero, List.set_cons_succ]
        refine takeL (i := 2) (v := ?_) rfl (by kernel_rfl) (by kernel_rfl) (by kernel_rfl) (fun _ _ _ h => h) (Or.inl ⟨by rfl, ?_⟩) (by assumption) ?_
        rotate_left
        focus (intro w hSw; go_simp; try with_reducible rfl)
        try simp only [Act.put, List.setIfInBounds_toArray, List.set_cons_zero, List.set_cons_succ]
        refine takeL (i := 4) (v := ?_) rfl (by kernel_rfl) (by kernel_rfl) (by kernel_rfl) (fun _ _ _ h => h) (Or.inl ⟨by rfl, ?_⟩) (by assumption) ?_
        rotate_left
        focus (intro w hSw; go_simp; try with_reducible rfl)
        try simp only [Act.put, List.setIfInBounds_toArray, List.set_cons_zero, List.set_cons_succ]
        refine callL (i := 1) (by kernel_rfl) rfl (fun K hQ => ?_)
        go_simp
        go_at_call 17
        refine (pick_m x0w n N (c + 1 + 1) t' 2 H.out.st (by omega) (by omega)).mono ?_
        rintro e x1w ⟨u0, rfl, hu00, hu01, hM7, hg7, hz7⟩
        have hzx : x1w.heap.size = F + 1 := by omega
        have H := hid (H.out.pick hg7 hM7)
        have q0 := H.out.st.p0
        clear hM7 hg7 hz7
        refine hQ.out _ _ q0 (fun hHeld => ?_)
        clear hQ
        try simp only [Act.put, List.setIfInBounds_toArray, List.set_cons_zero, List.set_cons_succ]
        refine takeL (i := 6) (v := ?_) rfl (by kernel_rfl) (by kernel_rfl) (by kernel_rfl) (fun _ _ _ h => h) (Or.inl ⟨by rfl, ?_⟩) (by assumption) ?_
        rotate_left
        focus (intro w hSw; go_simp; try with_reducible rfl)
        try simp only [Act.put, List.setIfInBounds_toArray, List.set_cons_zero, List.set_cons_succ]
        refine takeL (i := 7) (v := ?_) rfl (by kernel_rfl) (by kernel_rfl) (by kernel_rfl) (fun _ _ _ h => h) (Or.inl ⟨by rfl, ?_⟩) (by assumption) ?_
        rotate_left
        focus (intro w hSw; go_simp; try with_reducible rfl)
        try simp only [Act.put, List.setIfInBounds_toArray, List.set_cons_zero, List.set_cons_succ]
        refine callL (i := 3) (by kernel_rfl) rfl (fun K hQ => ?_)
        go_simp
        go_at_call 17
        refine (pick_m x1w n N (c + 1 + 1 + 1) t' 2 H.out.st (by omega) (by omega)).mono ?_
        rintro e x2w ⟨u1, rfl, hu10, hu11, hM7, hg7, hz7⟩
        have hzx : x2w.heap.size = F + 1 := by omega
        have H := hid (H.out.pick hg7 hM7)
        have q0 := H.out.st.p0
        clear hM7 hg7 hz7
        refine hQ.out _ _ q0 (fun hHeld => ?_)
        clear hQ
        try simp only [Act.put, List.setIfInBounds_toArray, List.set_cons_zero, List.set_cons_succ]
        refine callL (i := 5) (by kernel_rfl) rfl (fun K hQ => ?_)
        go_simp
        go_at_call 17
        refine (pick_m x2w n N (c + 1 + 1 + 1 + 1) t' 2 H.out.st (by omega) (by omega)).mono ?_
        rintro e x3w ⟨u2, rfl, hu20, hu21, hM7, hg7, hz7⟩
        have hzx : x3w.heap.size = F + 1 := by omega
        have H := hid (H.out.pick hg7 hM7)
        have q0 := H.out.st.p0
        clear hM7 hg7 hz7
        refine hQ.out _ _ q0 (fun hHeld => ?_)
        clear hQ
        try simp only [Act.put, List.setIfInBounds_toArray, List.set_cons_zero, List.set_cons_succ]
        obtain ⟨xf, x0, x1, x2, x3, x4, x5⟩ := H.out.six
        have hne : n + 4 ≠ F := by have := H.out.lt; omega
        have hne' : F ≠ n + 4 := by omega
        have hFx := H.out.szF
        refine callL (i := 8) (by kernel_rfl) rfl (fun K hQ => ?_)
        go_simp
        refine hQ.out _ _ (by go_simp) (fun hHeld => ?_)
        clear hQ
        try simp only [Act.put, List.setIfInBounds_toArray, List.set_cons_zero, List.set_cons_succ]
        refine takeL (i := 9) (v := ?_) rfl (by kernel_rfl) (by kernel_rfl) (by kernel_rfl) (fun _ _ _ h => h) (Or.inl ⟨by rfl, ?_⟩) (by assumption) ?_
        rotate_left
        focus (intro w hSw; go_simp; try with_reducible rfl)
        try simp only [Act.put, List.setIfInBounds_toArray, List.set_cons_zero, List.set_cons_succ]
        refine takeL (i := 10) (v := ?_) rfl (by kernel_rfl) (by kernel_rfl) (by kernel_rfl) (fun _ _ _ h => h) (Or.inl ⟨by rfl, ?_⟩) (by assumption) ?_
        rotate_left
        focus (intro w hSw; go_simp; try with_reducible rfl)
        try simp only [Act.put, List.setIfInBounds_toArray, List.set_cons_zero, List.set_cons_succ]
        refine callL (i := 11) (by kernel_rfl) rfl (fun K hQ => ?_)
        go_simp
        refine hQ.out _ _ (by go_simp) (fun hHeld => ?_)
        clear hQ
        try simp only [Act.put, List.setIfInBounds_toArray, List.set_cons_zero, List.set_cons_succ]
        refine takeL (i := 12) (v := ?_) rfl (by kernel_rfl) (by kernel_rfl) (by kernel_rfl) (fun _ _ _ h => h) (Or.inl ⟨by rfl, ?_⟩) (by assumption) ?_
        rotate_left
        focus (intro w hSw; go_simp; try with_reducible rfl)
        try simp only [Act.put, List.setIfInBounds_toArray, List.set_cons_zero, List.set_cons_succ]
        refine takeL (i := 13) (v := ?_) rfl (by kernel_rfl) (by kernel_rfl) (by kernel_rfl) (fun _ _ _ h => h) (Or.inl ⟨by rfl, ?_⟩) (by assumption) ?_
        rotate_left
        focus (intro w hSw; go_simp; try with_reducible rfl)
        try simp only [Act.put, List.setIfInBounds_toArray, List.set_cons_zero, List.set_cons_succ]
        refine callL (i := 14) (by kernel_rfl) rfl (fun K hQ => ?_)
        go_simp
        refine hQ.out _ _ (by go_simp) (fun hHeld => ?_)
        clear hQ
        try simp only [Act.put, List.setIfInBounds_toArray, List.set_cons_zero, List.set_cons_succ]
        refine wpAnyH_done (by kernel_rfl) ?_ _
        go_wp2_with fail
        go_meet
        case rel => exact ⟨rfl, _, _, (((H.out.put (i := 1) (by omega) u0).put (i := 2) (by omega) u1).put (i := 3) (by omega) u2), fun _ => (show okP ⟨2, u0, u1, u2⟩ from okP2 (by omega) (by omega) (by omega)), fun h => absurd rfl h, by omega, by omega, by simp; omega⟩
      · obtain ⟨xf, x0, x1, x2, x3, x4, x5⟩ := H6.out.six
        go_upto_region 15 with fail
        have H := hid H6.out.drew
        have hzx : W6.drew.heap.size = F + 1 := hz6
        clear xf x0 x1 x2 x3 x4 x5 H6 hz6
        refine wp_region_held_drew (S := fun W => W.cell? ⟨n + 4, 0, none⟩ = some (pickV n)) (by kernel_rfl) q0 (fun hHeld => ?_)
        generalize World.drew W6 = x0w at H hzx q0 hHeld ⊢
        refine takeL (i := 0) (v := ?_) rfl (by kernel_rfl) (by kernel_rfl) (by kernel_rfl) (fun _ _ _ h => h) (Or.inl ⟨by rfl, ?_⟩) (by assumption) ?_
        rotate_left
        focus (intro w hSw; go_simp; try with_reducible rfl)
        try simp only [Act.put, List.setIfInBounds_toArray, List.set_cons_zero, List.set_cons_succ]
        refine takeL (i := 2) (v := ?_) rfl (by kernel_rfl) (by kernel_rfl) (by kernel_rfl) (fun _ _ _ h => h) (Or.inl ⟨by rfl, ?_⟩) (by assumption) ?_
        rotate_left
        focus (intro w hSw; go_simp; try with_reducible rfl)
        try simp only [Act.put, List.setIfInBounds_toArray, List.set_cons_zero, List.set_cons_succ]
        refine callL (i := 1) (by kernel_rfl) rfl (fun K hQ => ?_)
        go_simp
        go_at_call 17
        refine (pick_m x0w n N (c + 1 + 1) t' 2 H.out.st (by omega) (by omega)).mono ?_
        rintro e x1w ⟨u0, rfl, hu00, hu01, hM7, hg7, hz7⟩
        have hzx : x1w.heap.size = F + 1 := by omega
        have H := hid (H.out.pick hg7 hM7)
        have q0 := H.out.st.p0
        clear hM7 hg7 hz7
        refine hQ.out _ _ q0 (fun hHeld => ?_)
        clear hQ
        try simp only [Act.put, List.setIfInBounds_toArray, List.set_cons_zero, List.set_cons_succ]
        refine takeL (i := 4) (v := ?_) rfl (by kernel_rfl) (by kernel_rfl) (by kernel_rfl) (fun _ _ _ h => h) (Or.inl ⟨by rfl, ?_⟩) (by assumption) ?_
        rotate_left
        focus (intro w hSw; go_simp; try with_reducible rfl)
        try simp only [Act.put, List.setIfInBounds_toArray, List.set_cons_zero, List.set_cons_succ]
        refine takeL (i := 5) (v := ?_) rfl (by kernel_rfl) (by kernel_rfl) (by kernel_rfl) (fun _ _ _ h => h) (Or.inl ⟨by rfl, ?_⟩) (by assumption) ?_
        rotate_left
        focus (intro w hSw; go_simp; try with_reducible rfl)
        try simp only [Act.put, List.setIfInBounds_toArray, List.set_cons_zero, List.set_cons_succ]
        refine callL (i := 3) (by kernel_rfl) rfl (fun K hQ => ?_)
        go_simp
        go_at_call 17
        refine (pick_m x1w n N (c + 1 + 1 + 1) t' 3 H.out.st (by omega) (by omega)).mono ?_
        rintro e x2w ⟨u1, rfl, hu10, hu11, hM7, hg7, hz7⟩
        have hzx : x2w.heap.size = F + 1 := by omega
        have H := hid (H.out.pick hg7 hM7)
        have q0 := H.out.st.p0
        clear hM7 hg7 hz7
        refine hQ.out _ _ q0 (fun hHeld => ?_)
        clear hQ
        try simp only [Act.put, List.setIfInBounds_toArray, List.set_cons_zero, List.set_cons_succ]
        obtain ⟨xf, x0, x1, x2, x3, x4, x5⟩ := H.out.six
        have hne : n + 4 ≠ F := by have := H.out.lt; omega
        have hne' : F ≠ n + 4 := by omega
        have hFx := H.out.szF
        refine callL (i := 6) (by kernel_rfl) rfl (fun K hQ => ?_)
        go_simp
        refine hQ.out _ _ (by go_simp) (fun hHeld => ?_)
        clear hQ
        try simp only [Act.put, List.setIfInBounds_toArray, List.set_cons_zero, List.set_cons_succ]
        refine takeL (i := 7) (v := ?_) rfl (by kernel_rfl) (by kernel_rfl) (by kernel_rfl) (fun _ _ _ h => h) (Or.inl ⟨by rfl, ?_⟩) (by assumption) ?_
        rotate_left
        focus (intro w hSw; go_simp; try with_reducible rfl)
        try simp only [Act.put, List.setIfInBounds_toArray, List.set_cons_zero, List.set_cons_succ]
        refine takeL (i := 8) (v := ?_) rfl (by kernel_rfl) (by kernel_rfl) (by kernel_rfl) (fun _ _ _ h => h) (Or.inl ⟨by rfl, ?_⟩) (by assumption) ?_
        rotate_left
        focus (intro w hSw; go_simp; try with_reducible rfl)
        try simp only [Act.put, List.setIfInBounds_toArray, List.set_cons_zero, List.set_cons_succ]
        refine callL (i := 9) (by kernel_rfl) rfl (fun K hQ => ?_)
        go_simp
        refine hQ.out _ _ (by go_simp) (fun hHeld => ?_)
        clear hQ
        try simp only [Act.put, List.setIfInBounds_toArray, List.set_cons_zero, List.set_cons_succ]
        refine wpAnyH_done (by kernel_rfl) ?_ _
        go_wp2_with fail
        go_meet
        case rel => exact ⟨rfl, _, _, ((H.out.put (i := 1) (by omega) u0).put (i := 3) (by omega) u1), fun _ => (show okP ⟨3, u0, 0, u1⟩ from okP3 (by omega) (by omega)), fun h => absurd rfl h, by omega, by omega, by simp; omega⟩
      · obtain ⟨xf, x0, x1, x2, x3, x4, x5⟩ := H6.out.six
        go_wp2_with (first
          | (go_at_call 17
             refine (pick_m W6 n N (c + 1 + 1) t' 2 H6.out.st (by omega) (by omega)).mono ?_
             rintro e W7 ⟨u, rfl, hu0, hu1, hM7, hg7, hz7⟩
             have H7 := hid (H6.out.pick hg7 hM7)
             obtain ⟨xf, x0, x1, x2, x3, x4, x5⟩ := H7.out.six
             clear hM7 hg7)
          | fail)
        go_meet
        case rel => exact ⟨rfl, _, _, H7.out.put (i := 1) (by omega) u, fun _ => (show okP ⟨4, u, 0, 0⟩ from okP4 (by omega)), fun h => absurd rfl h, by omega, by omega, by simp; omega⟩
      · obtain ⟨xf, x0, x1, x2, x3, x4, x5⟩ := H6.out.six
        go_wp2_with fail
        go_meet
        case rel => exact ⟨rfl, _, _, H6.out, fun _ => okP5, fun h => absurd rfl h, by omega, by omega, hz6⟩
      · obtain ⟨xf, x0, x1, x2, x3, x4, x5⟩ := H6.out.six
        go_wp2_with (first
          | (go_at_call 17
             refine (pick_m W6 n N (c + 1 + 1) t' 2 H6.out.st (by omega) (by omega)).mono ?_
             rintro e W7 ⟨u, rfl, hu0, hu1, hM7, hg7, hz7⟩
             have H7 := hid (H6.out.pick hg7 hM7)
             obtain ⟨xf, x0, x1, x2, x3, x4, x5⟩ := H7.out.six
             clear hM7 hg7)
          | fail)
        go_meet
        case rel => exact ⟨rfl, _, _, H7.out.put (i := 1) (by omega) u, fun _ => (show okP ⟨6, u, 0, 0⟩ from okP6 (by omega)), fun h => absurd rfl h, by omega, by omega, by simp; omega⟩
  case rest =>
  obtain ⟨rfl, p, c', HI, hok, hpz, hcl, hcu, hz⟩ := hcut
  rename World => W7
  have HI := hid HI
  have Hok := hid hok
  have Hpz := hid hpz
  clear H4 hok hpz yf y0 y1 y2 y3 y4 y5 Hb3 hbase
  go_upto_region 20 with (first
    | (go_at_call 19
       refine (rkids_any k ⟨hk1, hk2⟩ _).mono ?_
       rintro e Wk ⟨rfl, rfl⟩)
    | fail)
  go_loopw [10] (fun iv wr => ∃ (I : Int) (l : List Fm) (c2 t2 : Int) (v : Value), iv = .int .i64 I ∧ 0 ≤ I ∧ (l.length : Int) + I = frmK k ∧ Hid (MIn w wr n N c2 t2 F k p v) ∧ Hid (Kds wr (F + 1) v l) ∧ Hid (∀ f ∈ l, okD d f ∧ f.size < 2 ^ d) ∧ Hid (BndC c c2 d l.length)) (fun iv _ => (intOf iv).toNat)
  case atStart => exact ⟨frmK k, [], c', t', .slice none 0 0, rfl, by omega, by simp, HI, hid Kds.nil, hid (fun f hf => by simp at hf), hid ⟨hcl, .inl ⟨rfl, hcu⟩⟩⟩
  case round =>
    rename World => x
    obtain ⟨I, l, c2, t2, v, rfl, hI0, hlI, HX, HK, Hf, Hb⟩ := hrel
    have hkl := frmK_le k
    by_cases hgo : 0 < I
    · have d1 : decide (0 < I) = true := decide_eq_true hgo
      have hl2 : l.length ≤ 1 := by omega
      have hd0 : d ≠ 0 := hk3 fun e => by subst e; have : frmK 3 = 0 := rfl; omega
      obtain ⟨e, hde⟩ : ∃ e, d = e + 1 := ⟨d - 1, by omega⟩
      have hws : IntKind.i64.wrap ((d : Int) - 1) = (e : Int) := by rw [hde, show ((e + 1 : Nat) : Int) - 1 = (e : Int) by omega]; exact IntWalk.i64_in _ (by omega)
      have hcb : c2 + 5 * 2 ^ (e + 1) ≤ 1000 := by
        have h1 := Hc.out
        obtain ⟨h2, h3⟩ := Hb.out
        obtain ⟨hp1, hp2⟩ := two_pos d
        rw [hp2] at h1
        rw [← hde]
        rcases h3 with ⟨_, h⟩ | ⟨_, h⟩ | ⟨_, h⟩ <;> omega
      have HC := hid (fun x hx => Hih.out e hde n N c2 t2 x hx hcb)
      have Hbn : Hid (∀ c3, c2 ≤ c3 → c3 + 5 ≤ c2 + 5 * 2 ^ (e + 1) → BndC c c3 d (l.length + 1)) := hid fun c3 h1 h2 => by
        obtain ⟨h4, h3⟩ := Hb.out
        obtain ⟨hp1, hp2⟩ := two_pos d
        rw [← hde] at h2
        refine ⟨by omega, ?_⟩
        rcases h3 with ⟨e, h⟩ | ⟨e, h⟩ | ⟨e, h⟩ <;> rw [e] <;> omega
      have Hfn : Hid (∀ f, okD (e + 1) f → f.size < 2 ^ (e + 1) → ∀ g ∈ l ++ [f], okD d g ∧ g.size < 2 ^ d) := hid fun f h1 h2 g hg => by
        rcases List.mem_append.1 hg with hg | hg
        · exact Hf.out g hg
        · simp only [List.mem_singleton] at hg
          subst hg
          rw [hde]
          exact ⟨h1, h2⟩
      have hz : F < x.heap.size := HX.out.szF
      clear hde hcb Hb Hf hd0
      go_upto_region 22 with fail
      have HX := hid HX.out.drew
      have HK : Hid (Kds x.drew (F + 1) v l) := hid (HK.out.keepB (Nat.le_refl _) fun _ _ _ => rfl)
      have q1 := HX.out.st.pm
      obtain ⟨xf, x0, x1, x2, x3, x4, x5⟩ := HX.out.six
      refine wp_region_held_drew (S := fun W => W.cell? ⟨n + 5, 0, none⟩ = some (makeV n)) (by kernel_rfl) q1 (fun hHeld => ?_)
      have hz : F < x.drew.heap.size := hz
      generalize World.drew x = X0 at HX HK q1 hz xf x0 x1 x2 x3 x4 x5 hHeld ⊢
      refine takeL (i := 0) (v := ?_) rfl (by kernel_rfl) (by kernel_rfl) (by kernel_rfl) (fun _ _ _ h => h) (Or.inl ⟨by rfl, ?_⟩) (by assumption) ?_
      rotate_left
      focus (intro w hSw; go_simp; try with_reducible rfl)
      try simp only [Act.put, List.setIfInBounds_toArray, List.set_cons_zero, List.set_cons_succ]
      refine takeL (i := 2) (v := ?_) rfl (by kernel_rfl) (by kernel_rfl) (by kernel_rfl) (fun _ _ _ h => h) (Or.inl ⟨by rfl, ?_⟩) (by assumption) ?_
      rotate_left
      focus (intro w hSw; go_simp; try with_reducible rfl)
      try simp only [Act.put, List.setIfInBounds_toArray, List.set_cons_zero, List.set_cons_succ]
      refine takeL (i := 3) (v := ?_) rfl (by kernel_rfl) (by kernel_rfl) (by kernel_rfl) (fun _ _ _ h => h) (Or.inl ⟨by rfl, ?_⟩) (by assumption) ?_
      rotate_left
      focus (intro w hSw; go_simp; try with_reducible rfl)
      try simp only [Act.put, List.setIfInBounds_toArray, List.set_cons_zero, List.set_cons_succ]
      refine takeL (i := 4) (v := ?_) rfl (by kernel_rfl) (by kernel_rfl) (by kernel_rfl) (fun _ _ _ h => h) (Or.inl ⟨by rfl, ?_⟩) (by assumption) ?_
      rotate_left
      focus (intro w hSw; go_simp; try with_reducible rfl)
      try simp only [Act.put, List.setIfInBounds_toArray, List.set_cons_zero, List.set_cons_succ]
      refine callL2 (i := 1) (j := 5) (by kernel_rfl) rfl rfl (fun K hQ => ?_) (fun K hQ => ?_)
      · go_simp
        refine hQ.out _ _ q1 (fun hHeld => ?_)
        clear hQ
        try simp only [Act.put, List.setIfInBounds_toArray, List.set_cons_zero, List.set_cons_succ]
        refine callL (i := 5) (by kernel_rfl) rfl (fun K hQ => ?_)
        go_simp
        go_at_call 18
        with_reducible refine (HC.out X0 HX.out.st).mono ?_
        rintro e X1 ⟨f, a, cap1, c3, t3, rfl, hok, hsz, hf, hM, hc31, hc32, hbu⟩
        have Hok := hid (And.intro hok hsz)
        have HF : Hid (FmIn X1 (Ks (F + 1) X1 v) (fmC f.kind f.prop a f.kids.length cap1) f) := hid (hf.widen fun b hb => ⟨by have := hb.1; omega, hb.2, fun e => by have := (HK.out.own b e.symm).2; have := hb.1; omega⟩)
        have HK := hid (HX.out.kds hbu HK.out)
        have HX := hid (HX.out.made hbu hM)
        have hz : F < X1.heap.size := HX.out.szF
        have q1 := HX.out.st.pm
        obtain ⟨xf, x0, x1, x2, x3, x4, x5⟩ := HX.out.six
        clear hok hsz hf hM hbu
        refine hQ.out _ _ q1 (fun hHeld => ?_)
        clear hQ
        try simp only [Act.put, List.setIfInBounds_toArray, List.set_cons_zero, List.set_cons_succ]
        refine callL (i := 6) (by kernel_rfl) rfl (fun K hQ => ?_)
        go_simp
        have q1x := fun o => (HX.out.st.alloc o).pm
        refine hQ.out _ _ (q1x _) (fun hHeld => ?_)
        clear hQ
        try simp only [Act.put, List.setIfInBounds_toArray, List.set_cons_zero, List.set_cons_succ]
        have q1x := q1x (.cells #[.int .i64 f.kind, .int .i64 f.prop.k, .int .i64 f.prop.t, .int .i64 f.prop.a, .int .i64 f.prop.n, .slice a f.kids.length cap1] 30)
        refine callL (i := 7) (by kernel_rfl) rfl (fun K hQ => ?_)
        refine step_fmK (base := F + 1) (.tmp 98) (.tmp 103) v l f (fmC f.kind f.prop a f.kids.length cap1) ?_ ?_ ?_ ?_ HK.out HF.out (by omega) (by omega) ?_
        · rfl
        · rfl
        · rfl
        · rfl
        intro A9 c9 W2 hK2 hg2
        have HK2 := hid hK2
        have hown : ∀ j, v.ownBlock = some j → F < j := fun j hj => by have := (HK.out.own j hj).1; omega
        have H2 := hid ((HX.out.alloc _).next hg2 (fun j e => .inr (.inr (hown j e))) ((HX.out.st.alloc _).next hg2 fun j e => by have := hown j e; have := HX.out.lt; omega))
        have q2 := H2.out.st.pm
        have hne : n + 5 ≠ F := by have := H2.out.lt; omega
        have hne' : F ≠ n + 5 := by omega
        have hz2 := H2.out.szF
        clear hK2 hg2 hown xf x0 x1 x2 x3 x4 x5 q1 q1x HX HK HF
        obtain ⟨xf, x0, x1, x2, x3, x4, x5⟩ := H2.out.six
        refine hQ.out _ _ q2 (fun hHeld => ?_)
        clear hQ
        try simp only [Act.put, List.setIfInBounds_toArray, List.set_cons_zero, List.set_cons_succ]
        refine takeL (i := 8) (v := ?_) rfl (by kernel_rfl) (by kernel_rfl) (by kernel_rfl) (fun _ _ _ h => h) (Or.inl ⟨by rfl, ?_⟩) (by assumption) ?_
        rotate_left
        focus (intro w hSw; go_simp; try with_reducible rfl)
        try simp only [Act.put, List.setIfInBounds_toArray, List.set_cons_zero, List.set_cons_succ]
        refine callL (i := 9) (by kernel_rfl) rfl (fun K hQ => ?_)
        go_simp
        refine hQ.out _ _ (by go_simp) (fun hHeld => ?_)
        clear hQ
        try simp only [Act.put, List.setIfInBounds_toArray, List.set_cons_zero, List.set_cons_succ]
        refine wpAnyH_done (by kernel_rfl) ?_ _
        go_wp2_with fail
        refine ⟨⟨I - 1, l ++ [f], c3, t3, _, by go_simp, by omega, by rw [List.length_append, List.length_singleton]; omega, hid (H2.out.putV _), hid (HK2.out.keepB (by simp) fun b h1 _ => Below.heap_setCell _ _ _ _ (by simp; omega)), hid (Hfn.out f Hok.out.1 Hok.out.2), hid (by rw [List.length_append, List.length_singleton]; exact Hbn.out c3 hc31 hc32)⟩, by simp [intOf]; omega⟩
      · go_simp
        go_at_call 18
        with_reducible refine (HC.out X0 HX.out.st).mono ?_
        rintro e X2 ⟨f, a, cap1, c3, t3, rfl, hok, hsz, hf, hM, hc31, hc32, hbu⟩
        have Hok := hid (And.intro hok hsz)
        have HF : Hid (FmIn X2 (Ks (F + 1) X2 v) (fmC f.kind f.prop a f.kids.length cap1) f) := hid (hf.widen fun b hb => ⟨by have := hb.1; omega, hb.2, fun e => by have := (HK.out.own b e.symm).2; have := hb.1; omega⟩)
        have HK := hid (HX.out.kds hbu HK.out)
        have HX := hid (HX.out.made hbu hM)
        have hz : F < X2.heap.size := HX.out.szF
        have q1 := HX.out.st.pm
        obtain ⟨xf, x0, x1, x2, x3, x4, x5⟩ := HX.out.six
        clear hok hsz hf hM hbu
        refine hQ.out _ _ q1 (fun hHeld => ?_)
        clear hQ
        try simp only [Act.put, List.setIfInBounds_toArray, List.set_cons_zero, List.set_cons_succ]
        refine callL2 (i := 1) (j := 6) (by kernel_rfl) rfl rfl (fun K hQ => ?_) (fun K hQ => ?_)
        · go_simp
          refine hQ.out _ _ q1 (fun hHeld => ?_)
          clear hQ
          try simp only [Act.put, List.setIfInBounds_toArray, List.set_cons_zero, List.set_cons_succ]
          refine callL (i := 6) (by kernel_rfl) rfl (fun K hQ => ?_)
          go_simp
          have q1x := fun o => (HX.out.st.alloc o).pm
          refine hQ.out _ _ (q1x _) (fun hHeld => ?_)
          clear hQ
          try simp only [Act.put, List.setIfInBounds_toArray, List.set_cons_zero, List.set_cons_succ]
          have q1x := q1x (.cells #[.int .i64 f.kind, .int .i64 f.prop.k, .int .i64 f.prop.t, .int .i64 f.prop.a, .int .i64 f.prop.n, .slice a f.kids.length cap1] 30)
          refine callL (i := 7) (by kernel_rfl) rfl (fun K hQ => ?_)
          refine step_fmK (base := F + 1) (.tmp 98) (.tmp 103) v l f (fmC f.kind f.prop a f.kids.length cap1) ?_ ?_ ?_ ?_ HK.out HF.out (by omega) (by omega) ?_
          · rfl
          · rfl
          · rfl
          · rfl
          intro A9 c9 W2 hK2 hg2
          have HK2 := hid hK2
          have hown : ∀ j, v.ownBlock = some j → F < j := fun j hj => by have := (HK.out.own j hj).1; omega
          have H2 := hid ((HX.out.alloc _).next hg2 (fun j e => .inr (.inr (hown j e))) ((HX.out.st.alloc _).next hg2 fun j e => by have := hown j e; have := HX.out.lt; omega))
          have q2 := H2.out.st.pm
          have hne : n + 5 ≠ F := by have := H2.out.lt; omega
          have hne' : F ≠ n + 5 := by omega
          have hz2 := H2.out.szF
          clear hK2 hg2 hown xf x0 x1 x2 x3 x4 x5 q1 q1x HX HK HF
          obtain ⟨xf, x0, x1, x2, x3, x4, x5⟩ := H2.out.six
          refine hQ.out _ _ q2 (fun hHeld => ?_)
          clear hQ
          try simp only [Act.put, List.setIfInBounds_toArray, List.set_cons_zero, List.set_cons_succ]
          refine takeL (i := 8) (v := ?_) rfl (by kernel_rfl) (by kernel_rfl) (by kernel_rfl) (fun _ _ _ h => h) (Or.inl ⟨by rfl, ?_⟩) (by assumption) ?_
          rotate_left
          focus (intro w hSw; go_simp; try with_reducible rfl)
          try simp only [Act.put, List.setIfInBounds_toArray, List.set_cons_zero, List.set_cons_succ]
          refine callL (i := 9) (by kernel_rfl) rfl (fun K hQ => ?_)
          go_simp
          refine hQ.out _ _ (by go_simp) (fun hHeld => ?_)
          clear hQ
          try simp only [Act.put, List.setIfInBounds_toArray, List.set_cons_zero, List.set_cons_succ]
          refine wpAnyH_done (by kernel_rfl) ?_ _
          go_wp2_with fail
          refine ⟨⟨I - 1, l ++ [f], c3, t3, _, by go_simp, by omega, by rw [List.length_append, List.length_singleton]; omega, hid (H2.out.putV _), hid (HK2.out.keepB (by simp) fun b h1 _ => Below.heap_setCell _ _ _ _ (by simp; omega)), hid (Hfn.out f Hok.out.1 Hok.out.2), hid (by rw [List.length_append, List.length_singleton]; exact Hbn.out c3 hc31 hc32)⟩, by simp [intOf]; omega⟩
        · go_simp
          have q1x := fun o => (HX.out.st.alloc o).pm
          refine hQ.out _ _ (q1x _) (fun hHeld => ?_)
          clear hQ
          try simp only [Act.put, List.setIfInBounds_toArray, List.set_cons_zero, List.set_cons_succ]
          have q1x := q1x (.cells #[.int .i64 f.kind, .int .i64 f.prop.k, .int .i64 f.prop.t, .int .i64 f.prop.a, .int .i64 f.prop.n, .slice a f.kids.length cap1] 30)
          refine callL (i := 1) (by kernel_rfl) rfl (fun K hQ => ?_)
          go_simp
          refine hQ.out _ _ q1x (fun hHeld => ?_)
          clear hQ
          try simp only [Act.put, List.setIfInBounds_toArray, List.set_cons_zero, List.set_cons_succ]
          refine callL (i := 7) (by kernel_rfl) rfl (fun K hQ => ?_)
          refine step_fmK (base := F + 1) (.tmp 98) (.tmp 103) v l f (fmC f.kind f.prop a f.kids.length cap1) ?_ ?_ ?_ ?_ HK.out HF.out (by omega) (by omega) ?_
          · rfl
          · rfl
          · rfl
          · rfl
          intro A9 c9 W2 hK2 hg2
          have HK2 := hid hK2
          have hown : ∀ j, v.ownBlock = some j → F < j := fun j hj => by have := (HK.out.own j hj).1; omega
          have H2 := hid ((HX.out.alloc _).next hg2 (fun j e => .inr (.inr (hown j e))) ((HX.out.st.alloc _).next hg2 fun j e => by have := hown j e; have := HX.out.lt; omega))
          have q2 := H2.out.st.pm
          have hne : n + 5 ≠ F := by have := H2.out.lt; omega
          have hne' : F ≠ n + 5 := by omega
          have hz2 := H2.out.szF
          clear hK2 hg2 hown xf x0 x1 x2 x3 x4 x5 q1 q1x HX HK HF
          obtain ⟨xf, x0, x1, x2, x3, x4, x5⟩ := H2.out.six
          refine hQ.out _ _ q2 (fun hHeld => ?_)
          clear hQ
          try simp only [Act.put, List.setIfInBounds_toArray, List.set_cons_zero, List.set_cons_succ]
          refine takeL (i := 8) (v := ?_) rfl (by kernel_rfl) (by kernel_rfl) (by kernel_rfl) (fun _ _ _ h => h) (Or.inl ⟨by rfl, ?_⟩) (by assumption) ?_
          rotate_left
          focus (intro w hSw; go_simp; try with_reducible rfl)
          try simp only [Act.put, List.setIfInBounds_toArray, List.set_cons_zero, List.set_cons_succ]
          refine callL (i := 9) (by kernel_rfl) rfl (fun K hQ => ?_)
          go_simp
          refine hQ.out _ _ (by go_simp) (fun hHeld => ?_)
          clear hQ
          try simp only [Act.put, List.setIfInBounds_toArray, List.set_cons_zero, List.set_cons_succ]
          refine wpAnyH_done (by kernel_rfl) ?_ _
          go_wp2_with fail
          refine ⟨⟨I - 1, l ++ [f], c3, t3, _, by go_simp, by omega, by rw [List.length_append, List.length_singleton]; omega, hid (H2.out.putV _), hid (HK2.out.keepB (by simp) fun b h1 _ => Below.heap_setCell _ _ _ _ (by simp; omega)), hid (Hfn.out f Hok.out.1 Hok.out.2), hid (by rw [List.length_append, List.length_singleton]; exact Hbn.out c3 hc31 hc32)⟩, by simp [intOf]; omega⟩
    · have hI : I = 0 := by omega
      subst hI
      obtain ⟨A9, c9, rfl⟩ := HK.out.sl
      obtain ⟨xf, x0, x1, x2, x3, x4, x5⟩ := HX.out.six
      have hRb := HX.out.rb
      have hfin := hid (HX.out.fin (t := t) HK.out (by omega) ⟨hk1, hk2⟩ Hok.out Hpz.out Hf.out Hb.out (six_grown x w.heap.size (.int .i64 k) (.int .i64 p.k) (.int .i64 p.t) (.int .i64 p.a) (.int .i64 p.n) (.slice A9 l.length c9)))
      have hzF := HX.out.szF
      have hlt := HX.out.lt
      have hne : w.heap.size ≠ F := by omega
      have hne' : F ≠ w.heap.size := by omega
      obtain ⟨z9, zf, z0, z1, z2, z3, z4, z5⟩ := fmO_cells hRb
      have hr6 := res6 (c0 := .int .i64 k) (c1 := .int .i64 p.k) (c2 := .int .i64 p.t) (c3 := .int .i64 p.a) (c4 := .int .i64 p.n) (c5 := .slice A9 l.length c9) hRb
      have r0 := hid (cell_of_heap (j := 0) hr6)
      have r1 := hid (cell_of_heap (j := 1) hr6)
      have r2 := hid (cell_of_heap (j := 2) hr6)
      have r3 := hid (cell_of_heap (j := 3) hr6)
      have r4 := hid (cell_of_heap (j := 4) hr6)
      have r5 := hid (cell_of_heap (j := 5) hr6)
      clear hr6 hRb HX HK Hok Hpz Hf Hb Hih Hc Hp HI
      have d1 : decide ((0 : Int) < 0) = false := by decide
      go_wp2_with fail
      have r0 := r0.out
      have r1 := r1.out
      have r2 := r2.out
      have r3 := r3.out
      have r4 := r4.out
      have r5 := r5.out
      simp at r0 r1 r2 r3 r4 r5
      exact bodyPost_ret (v := .agg #[.int .i64 k, .int .i64 p.k, .int .i64 p.t, .int .i64 p.a, .int .i64 p.n, .slice A9 l.length c9]) (by simp [results, Tryz.results18, go_sem, r0, r1, r2, r3, r4, r5]) rfl hfin.out
/-- The maker, of whatever depth up to five. -/
theorem make_any : ∀ d, d ≤ 5 → MakeAt d
  | 0, h => make_step 0 h fun e he => absurd he (by omega)
  | d + 1, h => make_step (d + 1) h fun e he => by
    have : e = d := by omega
    subst this
    exact make_any e (by omega)
end Go.Proofs.YtogopcejapklgaaGreatDoor
namespace Go.Proofs.YtogopcejapklgaaGreatDoor
open Go Go.RowKit

/-- What Made leaves. -/
def MadeP (w : World) (e : Ending) (w' : World) : Prop :=
  ∃ (f : Fm) (a : Option Addr) (cap : Nat), e = .returned (.agg #[.int .i64 f.kind, .int .i64 f.prop.k, .int .i64 f.prop.t, .int .i64 f.prop.a, .int .i64 f.prop.n, .slice a f.kids.length cap]) ∧
    okD 6 f ∧ f.size < 64 ∧ FmIn w' (In_ w') (fmC f.kind f.prop a f.kids.length cap) f ∧ Below w.heap.size w w'

set_option maxRecDepth 100000 in
set_option maxHeartbeats 8000000 in
theorem made_any (N : Nums) (w : World) (hl : ByIn w (In_ w) N.a N.m N.cap N.cs) :
    Calls Tryz.prog 6 #[.slice N.a N.m N.cap, .int .i64 20] w (MadeP w) := by
  have Hl := hid hl
  clear hl
  have hmf : ∀ (fn : Fn) (first cap : Array Value) (w : World), (Instr.makeFunc fn first cap).run Tryz.prog w = .ok (.func fn first cap) w := fun _ _ _ _ => rfl
  go_enter Tryz.func6, Tryz.ntmps6
  go_upto_region 5 with fail
  generalize hW : World.alloc _ _ = W0
  have hz0 : W0.heap.size = w.heap.size + 6 := by subst hW; simp
  have HB0 : Hid (Below w.heap.size w W0) := by
    subst hW
    exact hid ((((((Below.refl _ _).alloc (by first | (simp; done) | (simp; omega)) _).alloc (by first | (simp; done) | (simp; omega)) _).alloc (by first | (simp; done) | (simp; omega)) _).alloc (by first | (simp; done) | (simp; omega)) _).alloc (by first | (simp; done) | (simp; omega)) _ |>.alloc (by first | (simp; done) | (simp; omega)) _)
  have HR0 : Hid (W0.heap[w.heap.size + 2]? = some (fmO 0 Pr.zero (.slice none 0 0))) := by
    subst hW
    exact hid ((Below.heap_alloc _ _ _ (by simp)).trans ((Below.heap_alloc _ _ _ (by simp)).trans ((Below.heap_alloc _ _ _ (by simp)).trans (alloc_at (by simp)))))
  have HM : Hid (MSt W0 w.heap.size N 0 20) := by
    have hby : ByIn W0 (· < w.heap.size) N.a N.m N.cap N.cs := Hl.out.keep fun b o hb => HB0.out.cell (p := ⟨b, o, none⟩) hb
    subst hW
    refine hid ⟨?_, ?_, ?_, ?_, ?_, ?_, ?_, hby, by omega, by omega, by omega⟩
    · show _ = _; go_simp
    · show _ = _; go_simp
    · show _ = _; go_simp
    · show _ = _; go_simp
    · show _ = _; go_simp
    · show _ = _; go_simp
    · show _ = _; go_simp
  clear hW Hl
  have q5 : W0.cell? ⟨w.heap.size + 1 + 1 + 1 + 1 + 1, 0, none⟩ = some (makeV w.heap.size) := HM.out.pm
  have hmk : Calls Tryz.prog 18 #[.int .i64 5, .pointer (some ⟨w.heap.size + 4, 0, none⟩), .pointer (some ⟨w.heap.size + 3, 0, none⟩), .pointer (some ⟨w.heap.size, 0, none⟩), .pointer (some ⟨w.heap.size + 1, 0, none⟩), .pointer (some ⟨w.heap.size + 5, 0, none⟩)] W0 (MkP W0 w.heap.size N 0 20 5) :=
    make_any 5 (by omega) w.heap.size N 0 20 W0 HM.out (by decide)
  have Hmk := hid hmk
  clear hmk
  go_wp2_with (first
    | (go_at_call 18
       with_reducible refine Hmk.out.mono ?_
       rintro e w1 ⟨f, a, cap, c2, t2, rfl, hok, hsz, hf, -, -, -, hbu⟩
       have hR := (hbu.block (w.heap.size + 2) (by omega) (by omega) (by omega)).trans HR0.out
       obtain ⟨z9, zf, z0, z1, z2, z3, z4, z5⟩ := fmO_cells hR
       have z9 : w.heap.size + 1 + 1 < w1.heap.size := z9
       have zf : ∀ o, w1.frozen? ⟨w.heap.size + 1 + 1, o, none⟩ = false := zf
       have z0 : w1.cell? ⟨w.heap.size + 1 + 1, 0, none⟩ = _ := z0
       have z1 : w1.cell? ⟨w.heap.size + 1 + 1, 1, none⟩ = _ := z1
       have z2 : w1.cell? ⟨w.heap.size + 1 + 1, 2, none⟩ = _ := z2
       have z3 : w1.cell? ⟨w.heap.size + 1 + 1, 3, none⟩ = _ := z3
       have z4 : w1.cell? ⟨w.heap.size + 1 + 1, 4, none⟩ = _ := z4
       have z5 : w1.cell? ⟨w.heap.size + 1 + 1, 5, none⟩ = _ := z5
       have HF := hid hf
       have HO := hid (And.intro hok hsz)
       have HU := hid hbu
       have HR := hid hR
       clear hok hsz hf hbu hR)
    | fail)
  have hr6 := res6 (c0 := .int .i64 f.kind) (c1 := .int .i64 f.prop.k) (c2 := .int .i64 f.prop.t) (c3 := .int .i64 f.prop.a) (c4 := .int .i64 f.prop.n) (c5 := .slice a f.kids.length cap) HR.out
  have r0 : _ = _ := cell_of_heap (j := 0) hr6
  have r1 : _ = _ := cell_of_heap (j := 1) hr6
  have r2 : _ = _ := cell_of_heap (j := 2) hr6
  have r3 : _ = _ := cell_of_heap (j := 3) hr6
  have r4 : _ = _ := cell_of_heap (j := 4) hr6
  have r5 : _ = _ := cell_of_heap (j := 5) hr6
  simp at r0 r1 r2 r3 r4 r5
  refine bodyPost_ret (v := .agg #[.int .i64 f.kind, .int .i64 f.prop.k, .int .i64 f.prop.t, .int .i64 f.prop.a, .int .i64 f.prop.n, .slice a f.kids.length cap]) (by simp [results, Tryz.results6, go_sem, r0, r1, r2, r3, r4, r5]) rfl ?_
  have hg := six_grown w1 (w.heap.size + 2) (.int .i64 f.kind) (.int .i64 f.prop.k) (.int .i64 f.prop.t) (.int .i64 f.prop.a) (.int .i64 f.prop.n) (.slice a f.kids.length cap)
  have hs := hg.size
  have hu := HU.out.size
  refine ⟨f, a, cap, rfl, HO.out.1, HO.out.2, (HF.out.keep fun b o hb => World.cell?_of_block (w := w1) (a := ⟨b, o, none⟩) (hg.block b hb.2 (by have := hb.1; simp; omega))).widen fun b hb => Nat.lt_of_lt_of_le hb.2 hs, ?_⟩
  exact ⟨hg.os.trans (HU.out.os.trans HB0.out.os), hg.tape.trans (HU.out.tape.trans HB0.out.tape), hg.output.trans (HU.out.output.trans HB0.out.output), Nat.le_trans (by omega : w.heap.size ≤ w1.heap.size) hs,
    fun b hb => (hg.block b (by omega) (by simp; omega)).trans ((HU.out.block b (by omega) (by omega) (by omega)).trans (HB0.out.block b hb))⟩
end Go.Proofs.YtogopcejapklgaaGreatDoor
