/- The document's Unpack. -/
import Derived.Test.YtekmcoflagajkaaGreatDoorBunU
import Derived.Test.YtekmcoflagajkaaGreatDoorBunV
import Derived.Test.YtekmcoflagajkaaGreatDoorPakC
import Derived.Deep.RegionHeld3
import Derived.Deep.RegionLaw
import Derived.BigRegion
import Derived.IntWalk
namespace Go.Proofs.YtekmcoflagajkaaGreatDoor
open Go.RowKit

/-- What Unpack hands back. -/
def UnpPost (w : World) (r : (Bool × List Int × List Thr) × Int) (e : Ending) (w' : World) : Prop :=
  ∃ ah caph am capm, e = .returned (.tuple #[.agg #[.slice ah r.1.2.2.length caph, .slice am r.1.2.1.length capm, .bool r.1.1], .int .i64 r.2]) ∧
    ThrIn w' (In_ w') ah r.1.2.2.length caph r.1.2.2 ∧ IntIn w' (In_ w') am r.1.2.1.length capm r.1.2.1 ∧ Below w.heap.size w w'
theorem UnpPost.zero {w w' : World} {n : Int} (h : Below w.heap.size w w') : UnpPost w ((false, [], []), n) (.returned (.tuple #[.agg #[.slice none 0 0, .slice none 0 0, .bool false], .int .i64 n])) w' :=
  ⟨none, 0, none, 0, rfl, ThrIn.nil_, IntIn.nil_, h⟩

theorem IntIn.tail {w : World} {S : Nat → Prop} {b off n cap : Nat} {l : List Int} (h : IntIn w S (some ⟨b, off, none⟩) (1 + n) cap l) : IntIn w S (some ⟨b, off + 1, none⟩) n (cap - 1) (l.drop 1) := by
  obtain ⟨h1, h2⟩ := h
  have hl : (l.drop 1).length = n := by rw [List.length_drop]; omega
  refine ⟨hl.symm, by have := h2.le; omega, by have := h2.mx; omega, fun h0 => ?_⟩
  obtain ⟨b', off', e, hb, hc⟩ := h2.at_ (by omega)
  obtain ⟨rfl, rfl⟩ : b = b' ∧ off = off' := by simpa using e
  refine ⟨b, off + 1, rfl, hb, fun i hi j hj => ?_⟩
  have := hc (i + 1) (by omega) j hj
  simp only [Nat.mul_one, List.getElem?_drop] at this ⊢
  rw [show off + 1 + (i + j) = off + (i + 1 + j) by omega, this, Nat.add_comm 1 i]
theorem IntIn.seven {w : World} {S : Nat → Prop} {a : Option Addr} {cap : Nat} {L : List Int} (h : IntIn w S a 7 cap (L.take 7)) (hL : 7 ≤ L.length) : ∃ b off, a = some ⟨b, off, none⟩ ∧ S b ∧ 7 ≤ cap ∧ cap ≤ maxLen ∧ ∀ i, i < 7 → w.cell? ⟨b, off + i, none⟩ = some (.int .i64 (L.getD i 0)) := by
  have hl : (L.take 7).length = 7 := by rw [List.length_take]; omega
  obtain ⟨_, h2⟩ := h
  obtain ⟨b, off, rfl, hb, hc⟩ := h2.at_ (by omega)
  refine ⟨b, off, rfl, hb, by have := h2.le; omega, h2.mx, fun i hi => ?_⟩
  have := hc i (by omega) 0 (by omega)
  simpa [hi, List.getD_eq_getElem?_getD] using this
theorem IntIn.all {w : World} {S : Nat → Prop} {a : Option Addr} {n cap : Nat} {L : List Int} (h : IntIn w S a n cap (L.take n)) (hL : n ≤ L.length) (i : Nat) (hi : i < n) : ∃ b off, a = some ⟨b, off, none⟩ ∧ S b ∧ n ≤ cap ∧ cap ≤ maxLen ∧ ∀ i, i < n → w.cell? ⟨b, off + i, none⟩ = some (.int .i64 (L.getD i 0)) := by
  have hl : (L.take n).length = n := by rw [List.length_take]; omega
  obtain ⟨_, h2⟩ := h
  obtain ⟨b, off, rfl, hb, hc⟩ := h2.at_ (by omega)
  refine ⟨b, off, rfl, hb, by have := h2.le; omega, h2.mx, fun i hi => ?_⟩
  have := hc i (by omega) 0 (by omega)
  simpa [hi, List.getD_eq_getElem?_getD] using this
theorem TBox.set5 {w : World} {tb : Nat} {x : Thr} {ar : Option Addr} {kr : Nat} (h : TBox w tb x ar kr) (B : List (Int × Int)) (a : Option Addr) (n k : Nat) (hn : B.length = n) :
    TBox (w.setCell ⟨tb, 5, none⟩ (.slice a n k)) tb ⟨x.pc, x.r0, x.r1, x.r2, x.r3, B⟩ a k := by
  subst hn
  obtain ⟨h9, h0, h1, h2, h3, h4, h5⟩ := h
  refine ⟨by simpa [World.setCell] using h9, ?_, ?_, ?_, ?_, ?_, ?_⟩ <;> go_simp
theorem frozen_set {w : World} {tb o : Nat} {a : Addr} {u : Value} (h : w.frozen? ⟨tb, o, none⟩ = false) : (w.setCell a u).frozen? ⟨tb, o, none⟩ = false := by go_simp
theorem three {W : World} {B : Nat} {u0 u1 u2 a b c : Value} (h0 : W.cell? ⟨B, 0, none⟩ = some u0) (h1 : W.cell? ⟨B, 1, none⟩ = some u1) (h2 : W.cell? ⟨B, 2, none⟩ = some u2) :
    ∃ W3, W3 = ((W.setCell ⟨B, 0, none⟩ a).setCell ⟨B, 1, none⟩ b).setCell ⟨B, 2, none⟩ c ∧ W3.cell? ⟨B, 0, none⟩ = some a ∧ W3.cell? ⟨B, 1, none⟩ = some b ∧ W3.cell? ⟨B, 2, none⟩ = some c := by
  refine ⟨_, rfl, ?_, ?_, ?_⟩ <;> go_simp
theorem three_below {n : Nat} {w W : World} {B : Nat} {a b c : Value} (h : Below n w W) (hB : n ≤ B) : Below n w (((W.setCell ⟨B, 0, none⟩ a).setCell ⟨B, 1, none⟩ b).setCell ⟨B, 2, none⟩ c) :=
  ((h.setCell hB _).setCell hB _).setCell hB _

theorem three_heap {W : World} {B : Nat} {a b c : Value} : ∀ k, k ≠ B → (((W.setCell ⟨B, 0, none⟩ a).setCell ⟨B, 1, none⟩ b).setCell ⟨B, 2, none⟩ c).heap[k]? = W.heap[k]? := fun _ hk =>
  ((Below.heap_setCell _ _ _ _ hk).trans (Below.heap_setCell _ _ _ _ hk)).trans (Below.heap_setCell _ _ _ _ hk)
theorem three_cell {W : World} {B : Nat} {a b c : Value} (k o : Nat) (hk : k ≠ B) : (((W.setCell ⟨B, 0, none⟩ a).setCell ⟨B, 1, none⟩ b).setCell ⟨B, 2, none⟩ c).cell? ⟨k, o, none⟩ = W.cell? ⟨k, o, none⟩ :=
  World.cell?_of_block (w := W) (a := ⟨k, o, none⟩) (three_heap k hk)
theorem three_size {W : World} {B : Nat} {a b c : Value} : (((W.setCell ⟨B, 0, none⟩ a).setCell ⟨B, 1, none⟩ b).setCell ⟨B, 2, none⟩ c).heap.size = W.heap.size := by simp [World.setCell]

set_option maxRecDepth 100000 in
set_option maxHeartbeats 16000000 in
theorem refUnpack_any (vars dom m b : Int) (ac : Option Addr) (nc capc : Nat) (t : List (List Ins)) (s : ByteArray) (w : World)
    (hc : ThsIn w (In_ w) ac nc capc t) (hs : s.size ≤ 100000) (wv : (Lit.int .i64 vars).wf = true) :
    Calls Tryz.prog 22 #[.agg #[.int .i64 vars, .int .i64 dom, .slice ac nc capc], .agg #[.int .i64 m, .int .i64 b], .string s] w (UnpPost w (unpS vars dom t m b (bytL s))) := by
  have hn1 := hc.1
  subst hn1
  obtain ⟨W0, hW⟩ : ∃ W0, W0 = ((w.alloc (.cells #[.int .i64 vars, .int .i64 dom, .slice ac t.length capc] 25)).alloc (.cells #[.int .i64 m, .int .i64 b] 30)).alloc (.cells #[.slice none 0 0, .slice none 0 0, .bool false] 34) := ⟨_, rfl⟩
  have hB : Below w.heap.size w W0 := by subst hW; exact (((Below.refl _ _).alloc (Nat.le_refl _) _).alloc (by simp) _).alloc (by simp; omega) _
  have z2 : w.heap.size + 1 + 1 < W0.heap.size := by subst hW; simp
  have z1 : w.heap.size + 1 < W0.heap.size := by omega
  have z0 : w.heap.size < W0.heap.size := by omega
  have c0 : W0.cell? ⟨w.heap.size, 0, none⟩ = some (.int .i64 vars) := by subst hW; go_simp
  have c1 : W0.cell? ⟨w.heap.size, 1, none⟩ = some (.int .i64 dom) := by subst hW; go_simp
  have c2 : W0.cell? ⟨w.heap.size, 2, none⟩ = some (.slice ac t.length capc) := by subst hW; go_simp
  have m0 : W0.cell? ⟨w.heap.size + 1, 0, none⟩ = some (.int .i64 m) := by subst hW; go_simp
  have m1 : W0.cell? ⟨w.heap.size + 1, 1, none⟩ = some (.int .i64 b) := by subst hW; go_simp
  have r0 : W0.cell? ⟨w.heap.size + 1 + 1, 0, none⟩ = some (.slice none 0 0) := by subst hW; go_simp
  have r1 : W0.cell? ⟨w.heap.size + 1 + 1, 1, none⟩ = some (.slice none 0 0) := by subst hW; go_simp
  have r2 : W0.cell? ⟨w.heap.size + 1 + 1, 2, none⟩ = some (.bool false) := by subst hW; go_simp
  have q0 : W0.frozen? ⟨w.heap.size + 1 + 1, 0, none⟩ = false := by subst hW; go_simp
  have q1 : W0.frozen? ⟨w.heap.size + 1 + 1, 1, none⟩ = false := by subst hW; go_simp
  have q2 : W0.frozen? ⟨w.heap.size + 1 + 1, 2, none⟩ = false := by subst hW; go_simp
  have hc0 := hid ((Kp.of hB).ths hc)
  have hmay := hid (refMay_any vars dom m b ac t.length capc t W0 hc0.out)
  have hmf : Hid (mayL vars dom t m b = true → 1 ≤ vars ∧ vars ≤ 4 ∧ 1 ≤ t.length ∧ t.length ≤ 4) := may_facts
  have hu0 : Hid (mayL vars dom t m b = false → unpS vars dom t m b (bytL s) = ((false, [], []), 1)) := unpS_may
  have hu1 : Hid (mayL vars dom t m b = true → unpL vars.toNat t.length (bytL s) = none → unpS vars dom t m b (bytL s) = ((false, [], []), 60)) := unpS_none
  have hu2 : Hid (mayL vars dom t m b = true → ∀ bad mem th, unpL vars.toNat t.length (bytL s) = some (bad, mem, th) → unpS vars dom t m b (bytL s) = if fitsL vars dom t m b th mem then ((bad, mem, th), 0) else ((false, [], []), 60)) := fun h _ _ _ => unpS_fit h
  generalize unpS vars dom t m b (bytL s) = R at *
  generalize mayL vars dom t m b = my at *
  have HB := hid hB
  have hWx := hid hW
  clear hW hB hc
  go_enter Tryz.func22, Tryz.ntmps22
  go_wp2_with fail
  rw [← hWx.out]
  refine hmay.out.mono ?_
  rintro e w1 ⟨rfl, hb1⟩
  have hK1 : Kp W0 w1 := Kp.of hb1
  have hf1 : ∀ b o, b < W0.heap.size → w1.frozen? ⟨b, o, none⟩ = W0.frozen? ⟨b, o, none⟩ := fun b o h => hb1.frozen (p := ⟨b, o, none⟩) h
  have HK1 := hid hK1
  have g1 := hK1.1.size
  clear hmay hWx hb1
  cases my
  case false =>
    have hR : Hid (R = ((false, [], []), 1)) := hu0.out rfl
    obtain ⟨W3, e3, x0, x1, x2⟩ := three (a := .slice none 0 0) (b := .slice none 0 0) (c := .bool false) ((hK1.2 _ _ z2).trans r0) ((hK1.2 _ _ z2).trans r1) ((hK1.2 _ _ z2).trans r2)
    have hfin := hid (three_below (a := .slice none 0 0) (b := .slice none 0 0) (c := .bool false) (Kp.fin HB.out HK1.out) (show w.heap.size ≤ w.heap.size + 1 + 1 by omega))
    rw [← e3] at hfin
    have E3 := hid e3
    clear e3
    go_wp2_with fail
    rw [← E3.out, hR.out]
    refine bodyPost_ret ?_ rfl (UnpPost.zero hfin.out)
    simp [results, Tryz.results22, go_sem, x0, x1, x2]
  obtain ⟨v1, v4, t1, t4⟩ := hmf.out rfl
  clear hmf
  obtain ⟨vn, hvn⟩ : ∃ vn : Nat, vars = vn := ⟨vars.toNat, by omega⟩
  subst hvn
  by_cases hlen : s.size < 1 + vn
  · have hR : Hid (R = ((false, [], []), 60)) := by
      exact hu1.out (by first | rfl | trivial) (unpL_short (by rw [bytL_len]; simpa using hlen))
    have hno := hid (take_no s (1 + vn) w1 (by omega))
    obtain ⟨W3, e3, x0, x1, x2⟩ := three (a := .slice none 0 0) (b := .slice none 0 0) (c := .bool false) ((hK1.2 _ _ z2).trans r0) ((hK1.2 _ _ z2).trans r1) ((hK1.2 _ _ z2).trans r2)
    have hfin := hid (three_below (a := .slice none 0 0) (b := .slice none 0 0) (c := .bool false) (Kp.fin HB.out HK1.out) (show w.heap.size ≤ w.heap.size + 1 + 1 by omega))
    rw [← e3] at hfin
    have E3 := hid e3
    clear e3
    go_wp2_with fail
    refine hno.out.mono ?_
    rintro e w' ⟨rfl, rfl⟩
    go_wp2_with fail
    rw [← E3.out, hR.out]
    refine bodyPost_ret ?_ rfl (UnpPost.zero hfin.out)
    simp [results, Tryz.results22, go_sem, x0, x1, x2]
  have hyes := hid (take_ok s (1 + vn) w1 (by omega) (by omega) hs)
  go_wp2_with fail
  rw [show (1 : Int) + (vn : Int) = ((1 + vn : Nat) : Int) by omega]
  refine hyes.out.mono ?_
  rintro e w2 ⟨al, capl, s', rfl, hin, hs', hb2⟩
  have hf2 : ∀ b o, b < W0.heap.size → w2.frozen? ⟨b, o, none⟩ = W0.frozen? ⟨b, o, none⟩ := fun b o h => (hb2.frozen (p := ⟨b, o, none⟩) (by show b < _; omega)).trans (hf1 b o h)
  have HK2 := hid (HK1.out.next hb2)
  have hK2 := HK2.out
  have g2 := hK2.1.size
  have lcap := hin.2.le
  have lmx := hin.2.mx
  unfold maxLen at lmx
  have hML : ((bytL s).take (1 + vn)).length = 1 + vn := by rw [List.length_take, bytL_len]; omega
  rw [hML] at lcap
  obtain ⟨bl, ol, rfl, hbl, e0⟩ := hin.at_ 0 (by omega)
  have hbl := hbl.2
  have hx : ((bytL s).take (1 + vn))[0] = (bytL s).getD 0 0 := by
    rw [List.getElem_take]
    exact (List.getElem_eq_getD (fallback := 0)).trans rfl
  rw [hx, Nat.add_zero] at e0
  generalize hX : (bytL s).getD 0 0 = x at *
  have HX := hid hX
  have HM := hid hML
  have HS := hid hs'
  have HIN := hid hin
  clear hx hX hML hs' hb2 hyes hin hK1 hf1
  by_cases hx1 : 1 < x
  · have hR : Hid (R = ((false, [], []), 60)) := by
      exact hu1.out (by first | rfl | trivial) (unpL_big (by rw [HX.out]; exact hx1))
    obtain ⟨W3, e3, x0, x1, x2⟩ := three (a := .slice none 0 0) (b := .slice none 0 0) (c := .bool false) ((hK2.2 _ _ z2).trans r0) ((hK2.2 _ _ z2).trans r1) ((hK2.2 _ _ z2).trans r2)
    have hfin := hid (three_below (a := .slice none 0 0) (b := .slice none 0 0) (c := .bool false) (Kp.fin HB.out HK2.out) (show w.heap.size ≤ w.heap.size + 1 + 1 by omega))
    rw [← e3] at hfin
    have E3 := hid e3
    clear e3
    go_wp2_with fail
    rw [← E3.out, hR.out]
    refine bodyPost_ret ?_ rfl (UnpPost.zero hfin.out)
    simp [results, Tryz.results22, go_sem, x0, x1, x2]
  have i1 : (0 : Int) < 1 + (vn : Int) := by omega
  have i2 : (1 : Int) ≤ 1 + (vn : Int) := by omega
  have i3 : (1 : Int) + (vn : Int) ≤ capl := by omega
  have i4 : (1 : Int) < capl := by omega
  have i5 : ¬ capl = 1 := by omega
  obtain ⟨bad, hbad⟩ : ∃ bad : Bool, (x == 1) = bad := ⟨_, rfl⟩
  go_wp2_with fail
  go_region_held3 (Kp w2) (first | exact Kp.start _ | exact (Kp.refl _).alloc _ | exact ((Kp.refl _).alloc _).drew | exact Kp.alloc (by assumption) _ | exact Kp.drew (by assumption)) (fail)
  generalize hV4 : World.drew (World.alloc w2 _) = W4
  have hK4 : Kp w2 W4 := by rw [← hV4]; exact ((Kp.refl w2).alloc _).drew
  have hmem : IntIn w2 (In_ w2) (some ⟨bl, ol + 1, none⟩) vn (capl - 1) (((bytL s).take (1 + vn)).drop 1) := IntIn.tail (HIN.out.widen fun b hb => hb.2)
  have hSB : SBox W4 w2.heap.size (.slice none 0 0) (.slice (some ⟨bl, ol + 1, none⟩) vn (capl - 1)) bad := by
    subst hV4
    refine ⟨by simp, ?_, ?_, ?_, fun o => ?_⟩ <;> go_simp
  generalize hmv : Value.slice (some ⟨bl, ol + 1, none⟩) vn (capl - 1) = mv at *
  have HMV := hid hmv
  have HMEM := hid hmem
  have HK4 := hid hK4
  have HSB := hid hSB
  clear hV4 hK4 hmem hSB hmv i1 i2 i3 i4 i5 e0 lcap lmx
  have hmx := hc0.out.le
  have hmx2 := hc0.out.mx
  unfold maxLen at hmx2
  have hc2 : w2.cell? ⟨w.heap.size, 2, none⟩ = some (.slice ac t.length capc) := (hK2.2 _ _ z0).trans c2
  have z02 : w.heap.size < w2.heap.size := by omega
  go_wp2_with fail
  go_loopw [9, 12] (fun left i wr => ∃ (k : Nat) (C : List Thr) (s2 : ByteArray) (v : Value), k ≤ t.length ∧ i = .int .i64 k ∧ left = .string s2 ∧ Hid (takeThrs k ((bytL s).drop (1 + vn)) = some (C, bytL s2)) ∧ Hid (s2.size ≤ 100000 ∧ ∀ x ∈ C, x.buf.length ≤ 1000) ∧ Kp w2 wr ∧ Hid (SBox wr w2.heap.size v mv bad) ∧ Hid (ThO wr (w2.heap.size + 1) v C)) (fun _ i _ => t.length - (intOf i).toNat)
  case atStart => exact ⟨0, [], s', _, Nat.zero_le _, rfl, rfl, by show _ = _; rw [HS.out]; rfl, ⟨by have h := HS.out; have h2 := congrArg List.length h; rw [bytL_len, List.length_drop, bytL_len] at h2; omega, fun x hx => by simp at hx⟩, HK4.out, HSB.out, ThO.nil⟩
  case round =>
    obtain ⟨k, C, s2, v, hk, rfl, rfl, hT, hbd, hK, hS, hO⟩ := hrel
    by_cases hlt : k < t.length
    · have z12 : w.heap.size + 1 < w2.heap.size := by omega
      have z22 : w.heap.size + 1 + 1 < w2.heap.size := by omega
      have n5 : w2.cell? ⟨w.heap.size + 1 + 1, 0, none⟩ = some (.slice none 0 0) := (hK2.2 _ _ z2).trans r0
      have n6 : w2.cell? ⟨w.heap.size + 1 + 1, 1, none⟩ = some (.slice none 0 0) := (hK2.2 _ _ z2).trans r1
      have n7 : w2.cell? ⟨w.heap.size + 1 + 1, 2, none⟩ = some (.bool false) := (hK2.2 _ _ z2).trans r2
      by_cases h7 : s2.size < 7
      · have hR : Hid (R = ((false, [], []), 60)) := hu1.out (by first | rfl | trivial) (unpL_none (takeThrs_none (takeThrs_stop hT.out (takeThr_short (by rw [bytL_len]; exact h7))) (by omega)))
        have hno := hid (take_no s2 7 wr (by omega))
        have hf3 : ∀ b o, b < w2.heap.size → wr.frozen? ⟨b, o, none⟩ = w2.frozen? ⟨b, o, none⟩ := fun b o h => hK.1.frozen (p := ⟨b, o, none⟩) h
        obtain ⟨W3, e3, x0, x1, x2⟩ := three (W := wr) (B := w.heap.size + 1 + 1) (a := .slice none 0 0) (b := .slice none 0 0) (c := .bool false) ((hK.2 _ _ z22).trans n5) ((hK.2 _ _ z22).trans n6) ((hK.2 _ _ z22).trans n7)
        have hfin := hid (three_below (a := .slice none 0 0) (b := .slice none 0 0) (c := .bool false) (Kp.fin HB.out (HK2.out.next hK.1)) (show w.heap.size ≤ w.heap.size + 1 + 1 by omega))
        rw [← e3] at hfin
        have E3 := hid e3
        clear e3
        go_wp2_with fail
        refine hno.out.mono ?_
        rintro e w' ⟨rfl, rfl⟩
        go_wp2_with fail
        rw [← E3.out, hR.out]
        refine bodyPost_ret ?_ rfl (UnpPost.zero hfin.out)
        simp [results, Tryz.results22, go_sem, x0, x1, x2]
      have hyes := hid (take_ok s2 7 wr (by omega) (by omega) hbd.out.1)
      go_wp2_with fail
      refine hyes.out.mono ?_
      rintro e w5 ⟨al, cap7, s3, rfl, hin, hs3, hb5⟩
      have HK5 := hid (hK.next hb5)
      have hK5 := HK5.out
      have HS5 := hid (SBox.block hS.out hb5.size (hb5.block _ hS.out.lt))
      have HO5 := hid (ThO.later hO.out hb5 (Nat.le_refl _))
      obtain ⟨b7, o7, rfl, hb7, c7, m7, hcell⟩ := hin.seven (by rw [bytL_len]; omega)
      unfold maxLen at m7
      obtain ⟨y0, hy0, ey0⟩ := bytL_byte s2 0
      obtain ⟨y1, hy1, ey1⟩ := bytL_byte s2 1
      obtain ⟨y6, hy6, ey6⟩ := bytL_byte s2 6
      have d0 := hcell 0 (by omega)
      have d1 := hcell 1 (by omega)
      have d2 := hcell 2 (by omega)
      have d3 := hcell 3 (by omega)
      have d4 := hcell 4 (by omega)
      have d5 := hcell 5 (by omega)
      have d6 := hcell 6 (by omega)
      rw [ey0, Nat.add_zero] at d0
      rw [ey1] at d1
      rw [ey6] at d6
      generalize ey2 : (bytL s2).getD 2 0 = y2 at *
      generalize ey3 : (bytL s2).getD 3 0 = y3 at *
      generalize ey4 : (bytL s2).getD 4 0 = y4 at *
      generalize ey5 : (bytL s2).getD 5 0 = y5 at *
      have E0 := hid ey0
      have E1 := hid ey1
      have E2 := hid ey2
      have E3 := hid ey3
      have E4 := hid ey4
      have E5 := hid ey5
      have E6 := hid ey6
      have HS3 := hid hs3
      have hlt7 := hb7.2
      have HIN := hid hin
      clear ey0 ey1 ey2 ey3 ey4 ey5 ey6 hs3 hb5 hcell hyes hK hS hO hin
      go_wp2_with fail
      go_region_held3 (Kp w5) (first | exact Kp.start _ | exact (Kp.refl _).alloc _ | exact ((Kp.refl _).alloc _).drew | exact Kp.alloc (by assumption) _ | exact Kp.drew (by assumption)) (fail)
      have hw1 : IntKind.i64.wrap (IntKind.i64.wrap (256 * (y0 : Int)) + (y1 : Int)) = 256 * (y0 : Int) + (y1 : Int) := by
        rw [IntWalk.i64_in (256 * (y0 : Int)) (by omega), IntWalk.i64_in _ (by omega)]
      rw [hw1]
      have EPC : Hid (256 * (bytL s2).getD 0 0 + (bytL s2).getD 1 0 = 256 * (y0 : Int) + (y1 : Int)) := by show _ = _; rw [E0.out, E1.out]
      clear hw1
      generalize 256 * (y0 : Int) + (y1 : Int) = pc at *
      generalize hV6 : World.drew (World.alloc w5 _) = W6
      have hK56 : Kp w5 W6 := by rw [← hV6]; exact ((Kp.refl w5).alloc _).drew
      have HT6 : Hid (TBox W6 w5.heap.size ⟨pc, y2, y3, y4, y5, []⟩ none 0) := by
        subst hV6
        refine ⟨by simp, ?_, ?_, ?_, ?_, ?_, ?_⟩ <;> go_simp
      have HF6 : Hid (∀ o, W6.frozen? ⟨w5.heap.size, o, none⟩ = false) := by
        subst hV6
        intro o
        go_simp
      have hz6 : W6.heap.size = w5.heap.size + 1 := by subst hV6; simp
      have HZ6 := hid hz6
      have HK56 := hid hK56
      have HK6 := hid (HK5.out.next hK56.1)
      have hK6 := HK6.out
      clear hV6 hz6 hK5
      have h64 : (2 * (y6 : Int)) = ((2 * y6 : Nat) : Int) := by omega
      have hs3z : Hid (s3.size + 7 = s2.size) := by have h := HS3.out; have h2 := congrArg List.length h; rw [bytL_len, List.length_drop, bytL_len] at h2; show _ = _; omega
      by_cases hfew : s3.size < 2 * y6
      · have hR : Hid (R = ((false, [], []), 60)) := hu1.out (by first | rfl | trivial) (unpL_none (takeThrs_none (takeThrs_stop hT.out (takeThr_few E6.out (by rw [bytL_len]; have := hs3z.out; omega))) (by omega)))
        have hno := hid (take_no s3 (2 * (y6 : Int)) W6 (by omega))
        have hf3 : ∀ b o, b < w2.heap.size → W6.frozen? ⟨b, o, none⟩ = w2.frozen? ⟨b, o, none⟩ := fun b o h => hK6.1.frozen (p := ⟨b, o, none⟩) h
        clear h64
        obtain ⟨W3, e3, x0, x1, x2⟩ := three (W := W6) (B := w.heap.size + 1 + 1) (a := .slice none 0 0) (b := .slice none 0 0) (c := .bool false) ((hK6.2 _ _ z22).trans n5) ((hK6.2 _ _ z22).trans n6) ((hK6.2 _ _ z22).trans n7)
        have hfin := hid (three_below (a := .slice none 0 0) (b := .slice none 0 0) (c := .bool false) (Kp.fin HB.out (HK2.out.next hK6.1)) (show w.heap.size ≤ w.heap.size + 1 + 1 by omega))
        rw [← e3] at hfin
        have E3 := hid e3
        clear e3
        go_wp2_with fail
        refine hno.out.mono ?_
        rintro e w' ⟨rfl, rfl⟩
        go_wp2_with fail
        rw [← E3.out, hR.out]
        refine bodyPost_ret ?_ rfl (UnpPost.zero hfin.out)
        simp [results, Tryz.results22, go_sem, x0, x1, x2]
      have hyes := hid (take_ok s3 (2 * y6) W6 (by omega) (by omega) (by have := hs3z.out; have := hbd.out.1; omega))
      have H64 := hid h64
      have HFW : Hid (2 * y6 ≤ s3.size) := by show _ ≤ _; omega
      clear h64
      go_wp2_with fail
      rw [H64.out]
      refine hyes.out.mono ?_
      rintro e w7 ⟨a8, cap8, s4, rfl, hin8, hs4, hb7'⟩
      rw [HZ6.out] at hin8
      have HT7 : Hid (TBox w7 w5.heap.size ⟨pc, y2, y3, y4, y5, []⟩ none 0) := HT6.out.keep hb7'.size fun o => hb7'.cell (p := ⟨_, o, none⟩) HT6.out.lt
      have HF7 : Hid (∀ o, w7.frozen? ⟨w5.heap.size, o, none⟩ = false) := fun o => (hb7'.frozen (p := ⟨_, o, none⟩) HT6.out.lt).trans (HF6.out o)
      have HK57 := hid (HK56.out.next hb7')
      have HIN8 := hid hin8
      have HS4 := hid hs4
      have gz7 : w5.heap.size < w7.heap.size := HT7.out.lt
      clear hyes hb7' hK56 hK6 hin8 hs4 hfew d0 d1 d2 d3 d4 d5 d6 hK2
      generalize htb : w5.heap.size = tb at *
      have HTB := hid htb
      clear htb
      go_wp2_with fail
      obtain ⟨wo, rfl⟩ : ∃ wo : World, wo = wr := ⟨_, rfl⟩
      go_loopw [15] (fun i wr => ∃ (q : Nat) (ar : Option Addr) (kr : Nat), q ≤ y6 ∧ i = .int .i64 q ∧ Hid (w7.grownBy wr (some tb)) ∧ Hid (TBox wr tb ⟨pc, y2, y3, y4, y5, pairsL q (bytL s3)⟩ ar kr) ∧ Hid (∀ o, wr.frozen? ⟨tb, o, none⟩ = false) ∧ Hid (wr.ownsRow w7.heap.size 66 2 (.slice ar q kr) q ((pairsL q (bytL s3)).flatMap enC))) (fun i _ => y6 - (intOf i).toNat)
      case atStart => exact ⟨0, none, 0, Nat.zero_le _, rfl, ⟨rfl, rfl, rfl, Nat.le_refl _, fun _ _ _ => rfl⟩, HT7.out, HF7.out, World.ownsRow_nil _ _ _ _⟩
      case round =>
        obtain ⟨q, ar, kr, hq, rfl, hG, hT9, hF9, hO9⟩ := hrel
        by_cases hql : q < y6
        · obtain ⟨b8, o8, rfl, hb8, c8, m8, hcell⟩ := HIN8.out.all (by rw [bytL_len]; exact HFW.out) (2 * q) (by omega)
          unfold maxLen at m8
          have hb8' : tb + 1 ≤ b8 := hb8.1
          have hb8'' : b8 < w7.heap.size := hb8.2
          have e0 : wr.cell? ⟨b8, o8 + 2 * q, none⟩ = some (.int .i64 ((bytL s3).getD (2 * q) 0)) := (World.cell?_of_block (w := w7) (a := ⟨b8, _, none⟩) (hG.out.block b8 hb8'' (by simp; omega))).trans (hcell (2 * q) (by omega))
          have e1 : wr.cell? ⟨b8, o8 + (2 * q + 1), none⟩ = some (.int .i64 ((bytL s3).getD (2 * q + 1) 0)) := (World.cell?_of_block (w := w7) (a := ⟨b8, _, none⟩) (hG.out.block b8 hb8'' (by simp; omega))).trans (hcell (2 * q + 1) (by omega))
          have hsn := hid (pairsL_snoc q (bytL s3))
          have hpl := hid (pairsL_len q (bytL s3))
          have hT' := hT9.out
          obtain ⟨p9, -, -, -, -, -, p5⟩ := hT'
          simp only at p5
          rw [hpl.out] at p5
          have p6 := hF9.out 5
          have hr9 : Hid ((Value.slice ar q kr).ownBlock ≠ some tb) := fun e => by have := (hO9.out.lt _ e).1; omega
          have g9 := hG.out.size
          have k0 : (0 : Int) ≤ q := by omega
          have k1 : (q : Int) < y6 := by omega
          have k2 : (2 : Int) * q + 1 < 2 * y6 := by omega
          have k3 : (2 : Int) * q < 2 * y6 := by omega
          have k5 : (0 : Int) ≤ 2 * q := by omega
          have k6 : (0 : Int) ≤ 2 * q + 1 := by omega
          have k4 : (2 : Int) * y6 ≤ 9223372036854775807 := by omega
          have w1' : IntKind.i64.wrap (2 * (q : Int)) = 2 * (q : Int) := IntWalk.i64_in _ (by omega)
          have w2' : IntKind.i64.wrap (2 * (q : Int) + 1) = 2 * (q : Int) + 1 := IntWalk.i64_in _ (by omega)
          have w3' : (2 * (q : Int)).toNat = 2 * q := by omega
          have w4' : (2 * (q : Int) + 1).toNat = 2 * q + 1 := by omega
          generalize (bytL s3).getD (2 * q) 0 = ev at *
          generalize (bytL s3).getD (2 * q + 1) 0 = en at *
          clear hcell
          go_wp2_with fail
          go_region_law (first
            | (refine step_en (base := w7.heap.size) (.tmp 104) (.tmp 117) (.slice ar q kr) q ((pairsL q (bytL s3)).flatMap enC) 1 [.int .i64 ev, .int .i64 en] ?_ ?_ ?_ ?_ ?_ ?_ ?_ ?_ ?_;
               (focus rfl); (focus rfl); (focus rfl); (focus exact (hO9.out.alloc _).drew); (focus (first | exact ⟨_, _, rfl, src_new rfl⟩ | exact ⟨_, _, rfl, src_new_d rfl⟩)); (focus exact one_cells); (focus omega); (focus (simp; omega));
               intro v6 w6 hown6 hg6 hat6;
               have hg9 := hid (grown_pre hg6);
               have c5 : w6.cell? ⟨tb, 5, none⟩ = some (.slice ar q kr) := (World.cell?_of_block (w := wr) (a := ⟨tb, 5, none⟩) (hg9.out.block tb p9 (fun e => hr9.out e.symm))).trans p5;
               have f5 : w6.frozen? ⟨tb, 5, none⟩ = false := (World.frozen?_of_block (w := wr) (a := ⟨tb, 5, none⟩) (hg9.out.block tb p9 (fun e => hr9.out e.symm))).trans p6;
               have hO6 := hid hown6;
               clear hg6 hat6 hown6;
               obtain ⟨a6, c6, rfl⟩ := own_at3 hO6.out)
            | fail)
          all_goals
            have hGn : Hid (w7.grownBy (w6.setCell ⟨tb, 5, none⟩ (.slice a6 (q + 1) c6)) (some tb)) := grown_trans (grown_new hG.out hg9.out (fun n hn => (hO9.out.lt n hn).1)) (grown_set _ _ _ _)
            have hTn : Hid (TBox (w6.setCell ⟨tb, 5, none⟩ (.slice a6 (q + 1) c6)) tb ⟨pc, y2, y3, y4, y5, pairsL (q + 1) (bytL s3)⟩ a6 c6) := TBox.set5 (hT9.out.grown hg9.out hr9.out) _ _ _ _ (pairsL_len _ _)
            have hFn : Hid (∀ o, (w6.setCell ⟨tb, 5, none⟩ (.slice a6 (q + 1) c6)).frozen? ⟨tb, o, none⟩ = false) := fun o => frozen_set ((World.frozen?_of_block (w := wr) (a := ⟨tb, o, none⟩) (hg9.out.block tb p9 (fun e => hr9.out e.symm))).trans (hF9.out o))
            have hOn : Hid ((w6.setCell ⟨tb, 5, none⟩ (.slice a6 (q + 1) c6)).ownsRow w7.heap.size 66 2 (.slice a6 (q + 1) c6) (q + 1) ((pairsL (q + 1) (bytL s3)).flatMap enC)) := by
              show World.ownsRow _ _ _ _ _ _ _
              rw [hsn.out, List.flatMap_append]
              exact ownsRow_setCell_below hO6.out (a := ⟨tb, 5, none⟩) (by show tb < _; omega) _
            clear hg9 c5 f5 hO6 hG hT9 hF9 hO9 e0 e1 p5 p6 w1' w2' w3' w4'
            go_wp2_with fail
            go_roundw
            case rel => exact ⟨q + 1, a6, c6, by omega, by simp, hGn, hTn, hFn, hOn⟩
            case measure => simp [intOf]; omega
        · obtain rfl : q = y6 := by omega
          have hB5 : Below w5.heap.size w5 wr := HK57.out.1.trans (grown_below hG.out (by have := HTB.out; omega) (fun n hn => by have := HTB.out; simp at hn; omega))
          have HKr := hid (HK5.out.next hB5)
          have hsbtb : w2.heap.size < tb := by have := HS5.out.lt; have := HTB.out; omega
          have HSr := hid (SBox.block HS5.out hB5.size (hB5.block _ HS5.out.lt))
          obtain ⟨LL, hLL, hown, hen⟩ := ThO.later HO5.out hB5 (Nat.le_refl _)
          obtain ⟨av, cv, rfl⟩ := own_at3 hown
          have hvlt : Hid (∀ n, (Value.slice av LL.length cv).ownBlock = some n → n < w5.heap.size) := fun n hn => (ThO.own HO5.out n hn).2
          obtain ⟨ae, ce, ee, hen9⟩ := EnIn.of_own (l := pairsL q (bytL s3)) (by rw [pairsL_len]; exact hO9.out)
          rw [pairsL_len] at ee hen9
          obtain ⟨rfl, rfl⟩ : ar = ae ∧ kr = ce := by simpa using ee
          have hpl := hid (pairsL_len q (bytL s3))
          have hT' := hT9.out
          obtain ⟨p9, t0, t1', t2, t3, t4', t5⟩ := hT'
          simp only at t0 t1' t2 t3 t4' t5
          rw [hpl.out] at t5
          obtain ⟨p8, p0, p1, p2, p3⟩ := HSr.out
          have Hown := hid hown
          have Hen := hid hen
          have Hen9 := hid hen9
          have HLL := hid hLL
          have hLLn : LL.length ≤ 100 := by have h := congrArg List.length hLL; rw [List.length_map, takeThrs_len hT.out] at h; omega
          have hxT := takeThr_ok E6.out (by rw [bytL_len]; have := hs3z.out; have := HFW.out; omega)
          rw [EPC.out, E2.out, E3.out, E4.out, E5.out, ← HS3.out] at hxT
          have hd4 : (bytL s2).drop (7 + 2 * q) = bytL s4 := by rw [HS4.out, HS3.out, List.drop_drop]
          rw [hd4] at hxT
          have hTn := hid (takeThrs_step hT.out hxT)
          have hnews : Hid (thC (⟨pc, y2, y3, y4, y5, pairsL q (bytL s3)⟩, ar, kr) = [.int .i64 pc, .int .i64 y2, .int .i64 y3, .int .i64 y4, .int .i64 y5, .slice ar q kr]) := by
            show _ = _
            unfold thC Thr.cells
            simp only [hpl.out]
          have hone : Hid (∀ u ∈ [Value.int .i64 pc, .int .i64 y2, .int .i64 y3, .int .i64 y4, .int .i64 y5, .slice ar q kr], u.oneCell' = true) := by
            have h := thC_one [(⟨pc, y2, y3, y4, y5, pairsL q (bytL s3)⟩, ar, kr)]
            rw [List.flatMap_cons, List.flatMap_nil, List.append_nil, hnews.out] at h
            exact h
          clear hown hen hen9 hLL ee hxT hd4 hB5
          go_wp2_with (first
            | (at_builtin
               refine list_th (base := w2.heap.size + 1) (.tmp 121) (.tmp 123) (.slice av LL.length cv) LL.length (LL.flatMap thC) 1 [.int .i64 pc, .int .i64 y2, .int .i64 y3, .int .i64 y4, .int .i64 y5, .slice ar q kr] ?_ ?_ ?_ ?_ ?_ ?_ ?_ ?_ ?_
               (focus rfl); (focus rfl); (focus rfl); (focus exact Hown.out.alloc _); (focus exact ⟨_, _, rfl, src_at rfl rfl⟩); (focus exact hone.out); (focus omega); (focus (simp; omega))
               intro v8 w8 hown8 hg8 hat8
               have hr8 : Hid ((Value.slice av LL.length cv).ownBlock ≠ some w2.heap.size) := fun e => by have := (Hown.out.lt _ e).1; omega
               have hgp := hid (grown_pre' hg8)
               have hap := hid (at_pre hat8)
               have HS8 := hid (HSr.out.grown hgp.out hr8.out)
               have HK8 := hid (Kp.of (Below.trans HKr.out.1 (grown_below (n := w2.heap.size) hgp.out HKr.out.1.size (fun n hn => by have := (Hown.out.lt n hn).1; omega))))
               have HO8 : Hid (ThO w8 (w2.heap.size + 1) v8 (LL.map (·.1) ++ [⟨pc, y2, y3, y4, y5, pairsL q (bytL s3)⟩])) := by
                 have hx1 : World.ownsRow w8 (w2.heap.size + 1) 64 6 v8 (LL.length + 1) (LL.flatMap thC ++ thC (⟨pc, y2, y3, y4, y5, pairsL q (bytL s3)⟩, ar, kr)) := by rw [hnews.out]; exact hown8
                 refine ThO.app hx1 hgp.out hap.out Hen.out ?_
                 · show EnIn _ _ _ (pairsL q (bytL s3)).length _ _
                   rw [hpl.out]
                   refine Hen9.out.widen fun n hn => ⟨by have h1 : w7.heap.size ≤ n := hn.1; omega, hn.2, fun e => ?_⟩
                   have h1 := hvlt.out n e
                   have h2 : w7.heap.size ≤ n := hn.1
                   have := HTB.out
                   omega
               obtain ⟨x9, x0, x1, x2, x3⟩ := HS8.out
               have hown8' := hid hown8
               clear hown8 hg8 hat8
               obtain ⟨a9, c9, rfl⟩ := own_at3 hown8'.out)
            | fail)
          have hTn9 : Hid (takeThrs (k + 1) ((bytL s).drop (1 + vn)) = some (LL.map (·.1) ++ [⟨pc, y2, y3, y4, y5, pairsL q (bytL s3)⟩], bytL s4)) := by show _ = _; rw [← HLL.out]; exact hTn.out
          have hbd9 : Hid (s4.size ≤ 100000 ∧ ∀ x ∈ LL.map (·.1) ++ [⟨pc, y2, y3, y4, y5, pairsL q (bytL s3)⟩], x.buf.length ≤ 1000) := by
            refine ⟨?_, fun x hx => ?_⟩
            · have h := congrArg List.length HS4.out
              rw [bytL_len, List.length_drop, bytL_len] at h
              have := hs3z.out
              have := hbd.out.1
              omega
            · rcases List.mem_append.1 hx with hx | hx
              · rw [← HLL.out] at hx
                exact hbd.out.2 x hx
              · simp at hx
                subst hx
                show (pairsL q (bytL s3)).length ≤ 1000
                rw [hpl.out]
                omega
          have hKn : Kp w2 (w8.setCell ⟨w2.heap.size, 0, none⟩ (.slice a9 (LL.length + 1) c9)) := Kp.of (HK8.out.1.setCell (Nat.le_refl _) _)
          have hSn : Hid (SBox (w8.setCell ⟨w2.heap.size, 0, none⟩ (.slice a9 (LL.length + 1) c9)) w2.heap.size (.slice a9 (LL.length + 1) c9) mv bad) := by
            refine ⟨by simpa [World.setCell] using x9, ?_, ?_, ?_, fun o => frozen_set (x3 o)⟩ <;> go_simp
          have hOn : Hid (ThO (w8.setCell ⟨w2.heap.size, 0, none⟩ (.slice a9 (LL.length + 1) c9)) (w2.heap.size + 1) (.slice a9 (LL.length + 1) c9) (LL.map (·.1) ++ [⟨pc, y2, y3, y4, y5, pairsL q (bytL s3)⟩])) :=
            ThO.grown HO8.out (grown_set _ _ _ _) (fun n hn => by simp at hn; omega)
          clear x9 x0 x1 x2 x3 HK8 HO8 HS8 p8 p0 p1 p2 p3 t0 t1' t2 t3 t4' t5
          go_wp2_with fail
          go_roundw
          case rel => exact ⟨k + 1, _, s4, _, by omega, by simp, rfl, hTn9, hbd9, hKn, hSn, hOn⟩
          case measure => simp [intOf]; omega
    · obtain rfl : k = t.length := by omega
      obtain ⟨ah, caph, rfl, hthr⟩ := hO.out.in_
      have hS' := hS.out
      obtain ⟨p9, p0, p1, p2, p3⟩ := hS'
      have hf3 : ∀ b o, b < w2.heap.size → wr.frozen? ⟨b, o, none⟩ = w2.frozen? ⟨b, o, none⟩ := fun b o h => hK.1.frozen (p := ⟨b, o, none⟩) h
      obtain ⟨be, hbe⟩ : ∃ be, s2.toList.isEmpty = be := ⟨_, rfl⟩
      have z12 : w.heap.size + 1 < w2.heap.size := by omega
      have z22 : w.heap.size + 1 + 1 < w2.heap.size := by omega
      have n0 : w2.cell? ⟨w.heap.size, 0, none⟩ = some (.int .i64 vn) := (hK2.2 _ _ z0).trans c0
      have n1 : w2.cell? ⟨w.heap.size, 1, none⟩ = some (.int .i64 dom) := (hK2.2 _ _ z0).trans c1
      have n3 : w2.cell? ⟨w.heap.size + 1, 0, none⟩ = some (.int .i64 m) := (hK2.2 _ _ z1).trans m0
      have n4 : w2.cell? ⟨w.heap.size + 1, 1, none⟩ = some (.int .i64 b) := (hK2.2 _ _ z1).trans m1
      have n5 : w2.cell? ⟨w.heap.size + 1 + 1, 0, none⟩ = some (.slice none 0 0) := (hK2.2 _ _ z2).trans r0
      have n6 : w2.cell? ⟨w.heap.size + 1 + 1, 1, none⟩ = some (.slice none 0 0) := (hK2.2 _ _ z2).trans r1
      have n7 : w2.cell? ⟨w.heap.size + 1 + 1, 2, none⟩ = some (.bool false) := (hK2.2 _ _ z2).trans r2
      have hbyt : bytL s2 = s2.toList.map fun c => (c.toNat : Int) := by unfold bytL; rw [Lib.toList_data]
      have hlen2 : ((bytL s).take (1 + vn)).length = 1 + vn := HM.out
      have hL : 1 + vn ≤ (bytL s).length := by rw [bytL_len]; omega
      have hdl : (((bytL s).take (1 + vn)).drop 1).length = vn := by rw [List.length_drop, hlen2]; omega
      cases be
      · have hR : Hid (R = ((false, [], []), 60)) := hu1.out (by first | rfl | trivial) (unpL_left hT.out (by rw [hbyt]; intro h; rw [List.map_eq_nil_iff] at h; rw [h] at hbe; cases hbe))
        obtain ⟨W3, e3, x0, x1, x2⟩ := three (W := wr) (B := w.heap.size + 1 + 1) (a := .slice none 0 0) (b := .slice none 0 0) (c := .bool false) ((hK.2 _ _ z22).trans n5) ((hK.2 _ _ z22).trans n6) ((hK.2 _ _ z22).trans n7)
        have hfin := hid (three_below (a := .slice none 0 0) (b := .slice none 0 0) (c := .bool false) (Kp.fin HB.out (HK2.out.next hK.1)) (show w.heap.size ≤ w.heap.size + 1 + 1 by omega))
        rw [← e3] at hfin
        have E3 := hid e3
        clear e3 hbyt hlen2 hL hdl
        go_wp2_with fail
        rw [← E3.out, hR.out]
        refine bodyPost_ret ?_ rfl (UnpPost.zero hfin.out)
        simp [results, Tryz.results22, go_sem, x0, x1, x2]
      have hnil : bytL s2 = [] := by rw [hbyt, List.isEmpty_iff.1 hbe]; rfl
      have hsome := unpL_some (vars := vn) (n := t.length) (L := bytL s) hL (by rw [HX.out]; omega) (by have := hT.out; rw [hnil] at this; exact this)
      rw [HX.out, hbad] at hsome
      have hR2 := hid (hu2.out (by first | rfl | trivial) _ _ _ hsome)
      have hmemr : IntIn wr (fun b => w1.heap.size ≤ b ∧ b < w2.heap.size) (some ⟨bl, ol + 1, none⟩) vn (capl - 1) (((bytL s).take (1 + vn)).drop 1) := (IntIn.tail HIN.out).keep fun b o hb => hK.2 b o hb.2
      have HTHR := hid hthr
      have HMR := hid hmemr
      have HDL := hid hdl
      have hfit := refFits_any vn dom m b ac t.length capc t ah C.length caph C (some ⟨bl, ol + 1, none⟩) vn (capl - 1) (((bytL s).take (1 + vn)).drop 1) bad wr (hK.ths (HK2.out.ths hc0.out)) (hthr.widen fun b hb => hb.2) (hmemr.widen fun b hb => by have := hb.2; have := hK.1.size; show b < _; omega) hbd.out.2
      rw [HMV.out] at hfit
      have hfit := hid hfit
      generalize ((bytL s).take (1 + vn)).drop 1 = mem at *
      generalize fitsL (vn : Int) dom t m b C mem = fit at *
      clear hbyt hlen2 hL hdl hnil hsome hthr hmemr
      go_wp2_with fail
      refine hfit.out.mono ?_
      rintro e w3 ⟨rfl, hb3⟩
      have HK3 := hid (hK.next hb3)
      have hK3 := HK3.out
      have hS3 := hid (SBox.block hS.out hb3.size (hb3.block _ hS.out.lt))
      have hS4 := hS3.out
      have hf4 : ∀ b o, b < w2.heap.size → w3.frozen? ⟨b, o, none⟩ = w2.frozen? ⟨b, o, none⟩ := fun b o h => hK3.1.frozen (p := ⟨b, o, none⟩) h
      have hBR := hid hb3
      have gwr : w2.heap.size ≤ wr.heap.size := hK.1.size
      clear hb3 hfit p9 p0 p1 p2 p3 hf3 hK
      obtain ⟨p9, p0, p1, p2, p3⟩ := hS4
      cases fit
      · have hR : Hid (R = ((false, [], []), 60)) := hR2.out
        obtain ⟨W3, e3, x0, x1, x2⟩ := three (W := w3) (B := w.heap.size + 1 + 1) (a := .slice none 0 0) (b := .slice none 0 0) (c := .bool false) ((hK3.2 _ _ z22).trans n5) ((hK3.2 _ _ z22).trans n6) ((hK3.2 _ _ z22).trans n7)
        have hfin := hid (three_below (a := .slice none 0 0) (b := .slice none 0 0) (c := .bool false) (Kp.fin HB.out (HK2.out.next hK3.1)) (show w.heap.size ≤ w.heap.size + 1 + 1 by omega))
        rw [← e3] at hfin
        have E3 := hid e3
        clear e3
        go_wp2_with fail
        rw [← E3.out, hR.out]
        refine bodyPost_ret ?_ rfl (UnpPost.zero hfin.out)
        simp [results, Tryz.results22, go_sem, x0, x1, x2]
      · have hR : Hid (R = ((bad, mem, C), 0)) := hR2.out
        obtain ⟨cx, hcx⟩ : ∃ cx, capl - 1 = cx := ⟨_, rfl⟩
        have hmvx := HMV.out
        have HMRx := HMR.out
        rw [hcx] at hmvx HMRx
        clear HMV HMR
        have HMV : Hid (Value.slice (some ⟨bl, ol + 1, none⟩) vn cx = mv) := hmvx
        have HMR := hid HMRx
        clear hcx HMRx
        subst hmvx
        obtain ⟨W3, e3, x0, x1, x2⟩ := three (W := w3) (B := w.heap.size + 1 + 1) (a := .slice ah C.length caph) (b := .slice (some ⟨bl, ol + 1, none⟩) vn cx) (c := .bool bad) ((hK3.2 _ _ z22).trans n5) ((hK3.2 _ _ z22).trans n6) ((hK3.2 _ _ z22).trans n7)
        have hfin := three_below (a := .slice ah C.length caph) (b := .slice (some ⟨bl, ol + 1, none⟩) vn cx) (c := .bool bad) (Kp.fin HB.out (HK2.out.next hK3.1)) (show w.heap.size ≤ w.heap.size + 1 + 1 by omega)
        rw [← e3] at hfin
        have hpost : Hid (UnpPost w ((bad, mem, C), 0) (.returned (.tuple #[.agg #[.slice ah C.length caph, .slice (some ⟨bl, ol + 1, none⟩) vn cx, .bool bad], .int .i64 0])) W3) := by
          refine ⟨ah, caph, some ⟨bl, ol + 1, none⟩, cx, by rw [HDL.out], ?_, ?_, hfin⟩
          · refine (HTHR.out.keep fun k o hk => ?_).widen fun k hk => ?_
            · have h1 : w2.heap.size + 1 ≤ k := hk.1
              have hkx : k ≠ w.heap.size + 1 + 1 := by omega
              rw [e3, three_cell k o hkx]
              exact hBR.out.cell (p := ⟨k, o, none⟩) hk.2
            · show k < _
              rw [e3, three_size]
              have := hBR.out.size
              omega
          · show IntIn _ _ _ mem.length _ _
            rw [HDL.out]
            refine (HMR.out.keep fun k o hk => ?_).widen fun k hk => ?_
            · have h1 : w1.heap.size ≤ k := hk.1
              have hkx : k ≠ w.heap.size + 1 + 1 := by omega
              rw [e3, three_cell k o hkx]
              exact hBR.out.cell (p := ⟨k, o, none⟩) (by have h2 : k < w2.heap.size := hk.2; show k < _; omega)
            · show k < _
              rw [e3, three_size]
              have := hBR.out.size
              have h2 : k < w2.heap.size := hk.2
              omega
        have E3 := hid e3
        clear e3 hfin
        go_wp2_with fail
        rw [← E3.out, hR.out]
        refine bodyPost_ret ?_ rfl hpost.out
        simp [results, Tryz.results22, go_sem, x0, x1, x2]
end Go.Proofs.YtekmcoflagajkaaGreatDoor
