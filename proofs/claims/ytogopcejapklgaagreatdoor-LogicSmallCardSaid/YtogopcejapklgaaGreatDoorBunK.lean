/- The document's Kids; the maker's pick. -/
import Derived.Test.YtogopcejapklgaaGreatDoorBunY
import Derived.Test.YtogopcejapklgaaGreatDoorBunM
import Derived.Test.YtogopcejapklgaaGreatDoorPrF
namespace Go.Proofs.YtogopcejapklgaaGreatDoor
open Go.RowKit

set_option maxHeartbeats 4000000 in
theorem rkids_any (k : Int) (hk : 1 ≤ k ∧ k ≤ 12) (w : World) : Calls Tryz.prog 19 #[.int .i64 k] w fun e w' => e = .returned (.int .i64 (frmK k)) ∧ w' = w := by
  have h : k = 1 ∨ k = 2 ∨ k = 3 ∨ k = 4 ∨ k = 5 ∨ k = 6 ∨ k = 7 ∨ k = 8 ∨ k = 9 ∨ k = 10 ∨ k = 11 ∨ k = 12 := by omega
  clear hk
  rcases h with rfl | rfl | rfl | rfl | rfl | rfl | rfl | rfl | rfl | rfl | rfl | rfl
  all_goals
    go_enter Tryz.func19, Tryz.ntmps19
    go_wp2_with fail
    go_ret
    exact ⟨rfl, rfl⟩

/-- What pick answers. -/
def PickPost (ba : Nat) (c n : Int) (w : World) (e : Ending) (w' : World) : Prop := ∃ r : Int, e = .returned (.int .i64 r) ∧ 0 ≤ r ∧ r < n ∧ w' = w.setCell ⟨ba, 0, none⟩ (.int .i64 (c + 1))
set_option maxHeartbeats 4000000 in
theorem pick_any (ba bl : Nat) (c n : Int) (hc : 0 ≤ c ∧ c ≤ 1000000) (hn : 1 ≤ n ∧ n ≤ 12) (S : Nat → Prop) (hS : ¬ S ba) (hne : bl ≠ ba) (a : Option Addr) (m cap : Nat) (cs : List Nat) (w : World)
    (h0 : w.cell? ⟨ba, 0, none⟩ = some (.int .i64 c)) (hf : w.frozen? ⟨ba, 0, none⟩ = false) (h1 : w.cell? ⟨bl, 0, none⟩ = some (.slice a m cap)) (hl : ByIn w S a m cap cs) :
    Calls Tryz.prog 17 #[.int .i64 n, .pointer (some ⟨ba, 0, none⟩), .pointer (some ⟨bl, 0, none⟩)] w (PickPost ba c n w) := by
  obtain ⟨c0, c1⟩ := hc
  obtain ⟨n0, n1⟩ := hn
  have hm := hl.1
  subst hm
  have hmx := hl.2.2.mx
  have hle := hl.2.2.le
  unfold maxLen at hmx
  have Hl := hid hl
  have hwc : IntKind.i64.wrap (c + 1) = c + 1 := IntWalk.i64_in _ (by omega)
  clear hl
  go_enter Tryz.func17, Tryz.ntmps17
  go_upto_region 2 with fail
  generalize hW : World.setCell w _ _ = W1
  have HW : Hid (W1 = w.setCell ⟨ba, 0, none⟩ (.int .i64 (c + 1))) := hid hW.symm
  have hk : ∀ b o, b ≠ ba → W1.cell? ⟨b, o, none⟩ = w.cell? ⟨b, o, none⟩ := fun b o hb => by subst hW; exact World.cell?_setCell_other _ _ _ _ (by intro e; injection e with e1; exact hb e1.symm)
  have q0 : W1.cell? ⟨ba, 0, none⟩ = some (.int .i64 (c + 1)) := by subst hW; go_simp
  have q1 : W1.cell? ⟨bl, 0, none⟩ = some (.slice a cs.length cap) := (hk bl 0 hne).trans h1
  have Hl1 : Hid (ByIn W1 S a cs.length cap cs) := hid (Hl.out.keep fun b o hb => hk b o fun e => hS (e ▸ hb))
  clear hW hk h0 h1 hf Hl hwc
  by_cases hgo : (cs.length : Int) < c + 1
  · have d1 : decide ((cs.length : Int) < c + 1) = true := decide_eq_true hgo
    go_wp2_with fail
    go_ret
    exact ⟨0, rfl, Int.le_refl _, by omega, HW.out⟩
  · have d1 : decide ((cs.length : Int) < c + 1) = false := decide_eq_false hgo
    obtain ⟨j, rfl⟩ : ∃ j : Nat, c = j := ⟨c.toNat, by omega⟩
    have hlt : j < cs.length := by omega
    obtain ⟨b, off, rfl, hb, hcell⟩ := Hl1.out.at_ j hlt
    have h256 : cs[j] < 256 := Hl1.out.2.1 _ (List.getElem_mem hlt)
    generalize cs[j] = x at *
    have hw2 : IntKind.i64.wrap ((j : Int) + 1 - 1) = (j : Int) := by rw [show (j : Int) + 1 - 1 = j by omega]; exact IntWalk.i64_in _ (by omega)
    have x0 : (0 : Int) ≤ x := by omega
    have x1 : (x : Int) < 256 := by omega
    have k1 : (j : Int) < cs.length := by omega
    have hr0 : 0 ≤ (x : Int) % n := Int.emod_nonneg _ (by omega)
    have hr1 : (x : Int) % n < n := Int.emod_lt_of_pos _ (by omega)
    have nz : ¬ n = 0 := by omega
    have nm : ¬ n = -1 := by omega
    have hr0 := hid hr0
    have hr1 := hid hr1
    go_wp2_with fail
    go_ret
    exact ⟨_, rfl, hr0.out, hr1.out, HW.out⟩
end Go.Proofs.YtogopcejapklgaaGreatDoor
namespace Go.Proofs.YtogopcejapklgaaGreatDoor
open Go.RowKit

abbrev pickV (n : Nat) : Value := .func (.func 17) #[] #[.pointer (some ⟨n + 3, 0, none⟩), .pointer (some ⟨n, 0, none⟩)]
abbrev makeV (n : Nat) : Value := .func (.func 18) #[] #[.pointer (some ⟨n + 4, 0, none⟩), .pointer (some ⟨n + 3, 0, none⟩), .pointer (some ⟨n, 0, none⟩), .pointer (some ⟨n + 1, 0, none⟩), .pointer (some ⟨n + 5, 0, none⟩)]
/-- The numbers that the maker reads. -/
structure Nums where
  a : Option Addr
  m : Nat
  cap : Nat
  cs : List Nat
/-- The maker's boxes: from block n on. -/
structure MSt (x : World) (n : Nat) (N : Nums) (c t : Int) : Prop where
  p0 : x.cell? ⟨n + 4, 0, none⟩ = some (pickV n)
  pm : x.cell? ⟨n + 5, 0, none⟩ = some (makeV n)
  pa : x.cell? ⟨n + 3, 0, none⟩ = some (.int .i64 c)
  fa : x.frozen? ⟨n + 3, 0, none⟩ = false
  pl : x.cell? ⟨n, 0, none⟩ = some (.slice N.a N.m N.cap)
  pt : x.cell? ⟨n + 1, 0, none⟩ = some (.int .i64 t)
  ft : x.frozen? ⟨n + 1, 0, none⟩ = false
  by_ : ByIn x (· < n) N.a N.m N.cap N.cs
  sz : n + 5 < x.heap.size
  c0 : 0 ≤ c
  t0 : 0 ≤ t ∧ t ≤ 20
/-- Nothing but two of the maker's boxes has turned. -/
structure MBut (n : Nat) (x y : World) : Prop where
  os : y.os = x.os
  tape : y.tape = x.tape
  output : y.output = x.output
  size : x.heap.size ≤ y.heap.size
  block : ∀ b, b < x.heap.size → b ≠ n + 1 → b ≠ n + 3 → y.heap[b]? = x.heap[b]?
namespace MBut
variable {n : Nat} {x y z : World}
theorem refl (n : Nat) (x : World) : MBut n x x := ⟨rfl, rfl, rfl, Nat.le_refl _, fun _ _ _ _ => rfl⟩
theorem trans (h : MBut n x y) (g : MBut n y z) : MBut n x z :=
  ⟨g.os.trans h.os, g.tape.trans h.tape, g.output.trans h.output, Nat.le_trans h.size g.size, fun b hb h1 h2 => (g.block b (Nat.lt_of_lt_of_le hb h.size) h1 h2).trans (h.block b hb h1 h2)⟩
theorem of {r : Option Nat} (h : x.grownBy y r) (hr : ∀ k, r = some k → k = n + 1 ∨ k = n + 3 ∨ x.heap.size ≤ k) : MBut n x y :=
  ⟨h.os, h.tape, h.output, h.size, fun b hb h1 h2 => h.block b hb fun e => by rcases hr b e.symm with h | h | h <;> omega⟩
/-- A block that was new is written, too. -/
theorem next (h : MBut n x y) {r : Option Nat} (g : y.grownBy z r) (hr : ∀ k, r = some k → k = n + 1 ∨ k = n + 3 ∨ x.heap.size ≤ k) : MBut n x z :=
  ⟨g.os.trans h.os, g.tape.trans h.tape, g.output.trans h.output, Nat.le_trans h.size g.size, fun b hb h1 h2 => (g.block b (Nat.lt_of_lt_of_le hb h.size) fun e => by rcases hr b e.symm with h | h | h <;> omega).trans (h.block b hb h1 h2)⟩
theorem below (h : MBut n x y) (hn : x.heap.size ≤ n) : Below x.heap.size x y :=
  ⟨h.os, h.tape, h.output, h.size, fun b hb => h.block b hb (by omega) (by omega)⟩
theorem cell (h : MBut n x y) {b o : Nat} (hb : b < x.heap.size) (h1 : b ≠ n + 1) (h2 : b ≠ n + 3) : y.cell? ⟨b, o, none⟩ = x.cell? ⟨b, o, none⟩ :=
  World.cell?_of_block (w := x) (a := ⟨b, o, none⟩) (h.block b hb h1 h2)
end MBut
namespace MSt
variable {n : Nat} {x y z : World} {N : Nums} {c t : Int}
theorem next (h : MSt x n N c t) {r : Option Nat} (g : x.grownBy y r) (hr : ∀ k, r = some k → n + 5 < k) : MSt y n N c t := by
  have hs := h.sz
  have hk : ∀ b, b ≤ n + 5 → y.heap[b]? = x.heap[b]? := fun b hb => g.block b (by omega) fun e => by have := hr b e.symm; omega
  have hc : ∀ b o, b ≤ n + 5 → y.cell? ⟨b, o, none⟩ = x.cell? ⟨b, o, none⟩ := fun b o hb => World.cell?_of_block (w := x) (a := ⟨b, o, none⟩) (hk b hb)
  have hf : ∀ b o, b ≤ n + 5 → y.frozen? ⟨b, o, none⟩ = x.frozen? ⟨b, o, none⟩ := fun b o hb => World.frozen?_of_block (w := x) (a := ⟨b, o, none⟩) (hk b hb)
  exact ⟨(hc _ _ (by omega)).trans h.p0, (hc _ _ (by omega)).trans h.pm, (hc _ _ (by omega)).trans h.pa, (hf _ _ (by omega)).trans h.fa, (hc _ _ (by omega)).trans h.pl, (hc _ _ (by omega)).trans h.pt, (hf _ _ (by omega)).trans h.ft,
    h.by_.keep fun b o hb => hc b o (by omega), Nat.lt_of_lt_of_le hs g.size, h.c0, h.t0⟩
theorem alloc (h : MSt x n N c t) (o : Obj) : MSt (x.alloc o) n N c t := h.next (World.grownBy_alloc x o none) fun _ e => by cases e
theorem drew (h : MSt x n N c t) : MSt x.drew n N c t := h.next (r := none) (grown_drew (grown_refl _ _)) fun _ e => by cases e
theorem set (h : MSt x n N c t) {b o : Nat} (hb : n + 5 < b) (v : Value) : MSt (x.setCell ⟨b, o, none⟩ v) n N c t := h.next (grown_set x b o v) fun k e => by cases e; exact hb
theorem at_ (h : MSt x n N c t) {c' : Int} (h0 : 0 ≤ c') : MSt (x.setCell ⟨n + 3, 0, none⟩ (.int .i64 c')) n N c' t := by
  have hs := h.sz
  have hk : ∀ b o, b ≠ n + 3 → (x.setCell ⟨n + 3, 0, none⟩ (.int .i64 c')).cell? ⟨b, o, none⟩ = x.cell? ⟨b, o, none⟩ := fun b o hb => World.cell?_setCell_other _ _ _ _ (by intro e; injection e with e1; exact hb e1.symm)
  have hf : ∀ b o, (x.setCell ⟨n + 3, 0, none⟩ (.int .i64 c')).frozen? ⟨b, o, none⟩ = x.frozen? ⟨b, o, none⟩ := fun b o => by simp
  have h3 := h.pa
  have h4 := h.fa
  exact ⟨(hk _ _ (by omega)).trans h.p0, (hk _ _ (by omega)).trans h.pm, by go_simp, (hf _ _).trans h.fa, (hk _ _ (by omega)).trans h.pl, (hk _ _ (by omega)).trans h.pt, (hf _ _).trans h.ft,
    h.by_.keep fun b o hb => hk b o (by omega), by simpa using hs, h0, h.t0⟩
theorem times (h : MSt x n N c t) {t' : Int} (h0 : 0 ≤ t' ∧ t' ≤ 20) : MSt (x.setCell ⟨n + 1, 0, none⟩ (.int .i64 t')) n N c t' := by
  have hs := h.sz
  have hk : ∀ b o, b ≠ n + 1 → (x.setCell ⟨n + 1, 0, none⟩ (.int .i64 t')).cell? ⟨b, o, none⟩ = x.cell? ⟨b, o, none⟩ := fun b o hb => World.cell?_setCell_other _ _ _ _ (by intro e; injection e with e1; exact hb e1.symm)
  have hf : ∀ b o, (x.setCell ⟨n + 1, 0, none⟩ (.int .i64 t')).frozen? ⟨b, o, none⟩ = x.frozen? ⟨b, o, none⟩ := fun b o => by simp
  have h3 := h.pt
  have h4 := h.ft
  exact ⟨(hk _ _ (by omega)).trans h.p0, (hk _ _ (by omega)).trans h.pm, (hk _ _ (by omega)).trans h.pa, (hf _ _).trans h.fa, (hk _ _ (by omega)).trans h.pl, by go_simp, (hf _ _).trans h.ft,
    h.by_.keep fun b o hb => hk b o (by omega), by simpa using hs, h.c0, h0⟩
end MSt

/-- What pick leaves. -/
def PkP (x : World) (n : Nat) (N : Nums) (c t k : Int) (e : Ending) (y : World) : Prop :=
  ∃ r : Int, e = .returned (.int .i64 r) ∧ 0 ≤ r ∧ r < k ∧ MSt y n N (c + 1) t ∧ x.grownBy y (some (n + 3)) ∧ y.heap.size = x.heap.size
theorem pick_m (x : World) (n : Nat) (N : Nums) (c t k : Int) (hM : MSt x n N c t) (hc : c ≤ 1000000) (hk : 1 ≤ k ∧ k ≤ 12) :
    Calls Tryz.prog 17 #[.int .i64 k, .pointer (some ⟨n + 3, 0, none⟩), .pointer (some ⟨n, 0, none⟩)] x (PkP x n N c t k) := by
  have hs := hM.sz
  have hc0 := hM.c0
  refine (pick_any (n + 3) n c k ⟨hM.c0, hc⟩ hk (· < n) (by omega) (by omega) N.a N.m N.cap N.cs x hM.pa hM.fa hM.pl hM.by_).mono ?_
  rintro e y ⟨r, rfl, h0, h1, rfl⟩
  exact ⟨r, rfl, h0, h1, hM.at_ (by omega), grown_set _ _ _ _, by simp⟩

/-- Atoms that may be. -/
theorem okP1 {a n : Int} (ha : 0 ≤ a ∧ a ≤ 999999) (hn : 0 ≤ n ∧ n ≤ 999999) : okP ⟨1, 0, a, n⟩ := by
  refine ⟨.inl rfl, ?_, rfl⟩
  show ∀ x ∈ [a, n], _
  simp; omega
theorem okP2 {t a n : Int} (ht : 0 ≤ t ∧ t ≤ 999999) (ha : 0 ≤ a ∧ a ≤ 999999) (hn : 0 ≤ n ∧ n ≤ 999999) : okP ⟨2, t, a, n⟩ := by
  refine ⟨.inr (.inl rfl), ?_, rfl⟩
  show ∀ x ∈ [t, a, n], _
  simp; omega
theorem okP3 {t n : Int} (ht : 0 ≤ t ∧ t ≤ 999999) (hn : 0 ≤ n ∧ n ≤ 999999) : okP ⟨3, t, 0, n⟩ := by
  refine ⟨.inr (.inr (.inl rfl)), ?_, rfl⟩
  show ∀ x ∈ [t, n], _
  simp; omega
theorem okP4 {t : Int} (ht : 0 ≤ t ∧ t ≤ 999999) : okP ⟨4, t, 0, 0⟩ := by
  refine ⟨.inr (.inr (.inr (.inl rfl))), ?_, rfl⟩
  show ∀ x ∈ [t], _
  simp; omega
theorem okP5 : okP ⟨5, 0, 0, 0⟩ := by
  refine ⟨.inr (.inr (.inr (.inr (.inl rfl)))), ?_, rfl⟩
  show ∀ x ∈ ([] : List Int), _
  simp
theorem okP6 {t : Int} (ht : 0 ≤ t ∧ t ≤ 999999) : okP ⟨6, t, 0, 0⟩ := by
  refine ⟨.inr (.inr (.inr (.inr (.inr rfl)))), ?_, rfl⟩
  show ∀ x ∈ [t], _
  simp; omega

/-- append of a formula's cells, as a step of a region. -/
theorem step_fm {ops : Array Oper} {o : Oper} {a : Act} {W : World} {base : Nat} {K : Act → World → Prop} {Q : Exit → Act → World → Prop} {E : Prop} (s x : Operand) (v : Value) (n : Nat) (xs : List Value) (cs : List Value)
    (hgd : o.guard = none) (ho : o.op = .call { callee := .builtin .append, args := #[s, x], argTypes := #[28, 28] })
    (hsv : a.eval s = v) (hown : W.ownsRow base 30 6 v n xs) (hsrc : ∃ A c, a.eval x = .slice A 1 c ∧ SrcAt W 6 A 1 cs) (hone : ∀ u ∈ cs, u.oneCell' = true) (hb : n + 1 ≤ 100000) (hbase : base ≤ W.heap.size)
    (h : ∀ v' w', w'.ownsRow base 30 6 v' (n + 1) (xs ++ cs) → W.grownBy w' v.ownBlock → (v'.ownBlock = v.ownBlock ∨ v'.ownBlock = some W.heap.size) → K (a.put o.dst v') w') :
    if Region.wanted o (yielded ops a.tmps) = true then Oper.wp Tryz.prog o a W K Q else E := by
  obtain ⟨i0, hi, hz0, hz1, hz2⟩ := info_parts_fm
  exact step_app hgd s x ho Tryz.underlying28 hi hz0 hz1 hz2 rfl (by decide) v n xs hsv hown 1 cs hsrc hone (by simp only [maxLen]; omega) (by omega) hbase fun v' w' h1 h2 h3 => h v' w' h1 h2 h3
/-- One more, out of a new block. -/
theorem step_fmK {ops : Array Oper} {o : Oper} {a : Act} {w : World} {base : Nat} {K : Act → World → Prop} {Q : Exit → Act → World → Prop} {E : Prop} (s x : Operand) (v : Value) (L : List Fm) (y : Fm) (cs : List Value) {T : TypeId}
    (hgd : o.guard = none) (ho : o.op = .call { callee := .builtin .append, args := #[s, x], argTypes := #[28, 28] })
    (hsv : a.eval s = v) (hx : a.eval x = .slice (some ⟨w.heap.size, 0, none⟩) 1 1) (hown : Kds w base v L) (hy : FmIn w (Ks base w v) cs y) (hb : L.length + 1 ≤ 100000) (hbase : base ≤ w.heap.size)
    (h : ∀ A c w', Kds w' base (.slice A (L.length + 1) c) (L ++ [y]) → (w.alloc (.cells cs.toArray T)).grownBy w' v.ownBlock → K (a.put o.dst (.slice A (L.length + 1) c)) w') :
    if Region.wanted o (yielded ops a.tmps) = true then Oper.wp Tryz.prog o a (w.alloc (.cells cs.toArray T)) K Q else E := by
  have hlen := hy.len
  have hones := hy.ones.2
  have hown1 : FmO (w.alloc (.cells cs.toArray T)) base (Ks base w v) v L := FmO.kept hown (World.grownBy_alloc w _ none) (by cases v.ownBlock <;> simp) fun b hb => ⟨hb.2.1, by simp⟩
  have hy1 : FmIn (w.alloc (.cells cs.toArray T)) (Ks base w v) cs y := hy.keep fun b o hb => World.cell?_alloc_lt _ _ _ hb.2.1
  obtain ⟨LL, rfl, h1, h2⟩ := hown1
  rw [List.length_map] at hb h
  refine step_fm (base := base) s x v LL.length (LL.flatMap fxC) cs hgd ho hsv h1 ⟨_, _, hx, src_new (by rw [hlen])⟩ hones hb (by simp; omega) fun v' w' g1 g2 g3 => ?_
  obtain ⟨A', c', rfl⟩ := own_at g1
  have hk : ∀ b o, Ks base w v b → w'.cell? ⟨b, o, none⟩ = (w.alloc (.cells cs.toArray T)).cell? ⟨b, o, none⟩ := fun b o hb => World.cell?_of_block (g2.block b (by have := hb.2.1; simp; omega) hb.2.2)
  have hz := g2.size
  simp at hz
  refine h A' c' w' ⟨LL ++ [(y, fun i => cs[i]?.getD default)], by simp, ?_, fun z hz => ?_⟩ g2
  · rw [List.length_append, List.flatMap_append]
    have : [(y, fun i => cs[i]?.getD default)].flatMap fxC = cs := by simp [fxC_of hlen]
    rw [this]
    exact g1
  · have hw : ∀ b, Ks base w v b → Ks base w' (.slice A' (LL.length + 1) c') b := fun b hb => ⟨hb.1, by have := hb.2.1; omega, fun e => by
      rcases g3 with g3 | g3
      · exact hb.2.2 (e.trans g3)
      · rw [g3] at e
        have := Option.some.inj e
        have := hb.2.1
        simp at *
        omega⟩
    rcases List.mem_append.1 hz with hz | hz
    · exact ((h2 z hz).keep hk).widen hw
    · simp only [List.mem_singleton] at hz
      subst hz
      rw [fxC_of hlen]
      exact (hy1.keep hk).widen hw
end Go.Proofs.YtogopcejapklgaaGreatDoor
