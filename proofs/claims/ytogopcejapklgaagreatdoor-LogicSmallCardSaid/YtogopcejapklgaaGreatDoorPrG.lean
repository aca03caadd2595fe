/- The parser takes one part more of a formula: the closure. -/
import Derived.Test.YtogopcejapklgaaGreatDoorPrF
namespace Go.Proofs.YtogopcejapklgaaGreatDoor
open Go Go.RowKit

section
variable {P : Program} {l : List Oper} {Q : Exit → Act → World → Prop} {md : Region.Mode} {S : World → Prop}
/-- Three operations may come up. -/
theorem callL3 {fuel : Nat} {listed : Array Bool} {a : Act} {w : World} {i j k : Nat} {oi oj ok : Oper} (hr : Region.ready md l.toArray listed = [i, j, k]) (hi : l[i]? = some oi) (hj : l[j]? = some oj) (hk : l[k]? = some ok)
    (h1 : ∀ K' : Act → World → Prop, Shut (∀ a w, S w → (S w → wpAnyH P md l.toArray Q S fuel (listed.setIfInBounds i true) a w) → K' a w) → if Region.wanted oi (yielded l.toArray a.tmps) = true then Oper.wp P oi a w K' Q else K' (a.put oi.dst undef) w)
    (h2 : ∀ K' : Act → World → Prop, Shut (∀ a w, S w → (S w → wpAnyH P md l.toArray Q S fuel (listed.setIfInBounds j true) a w) → K' a w) → if Region.wanted oj (yielded l.toArray a.tmps) = true then Oper.wp P oj a w K' Q else K' (a.put oj.dst undef) w)
    (h3 : ∀ K' : Act → World → Prop, Shut (∀ a w, S w → (S w → wpAnyH P md l.toArray Q S fuel (listed.setIfInBounds k true) a w) → K' a w) → if Region.wanted ok (yielded l.toArray a.tmps) = true then Oper.wp P ok a w K' Q else K' (a.put ok.dst undef) w) :
    wpAnyH P md l.toArray Q S (fuel + 1) listed a w :=
  wpAnyH_ready (rs := [i, j, k]) hr (by simp) (AllReadyH.cons (by simpa using hi) h1 (AllReadyH.cons (by simpa using hj) h2 (AllReadyH.cons (by simpa using hk) h3 AllReadyH.nil)))
end

set_option maxRecDepth 100000 in
set_option maxHeartbeats 8000000 in
theorem kid_bad (base : Nat) (P B bp bw n d c i : Nat) (wi k : Int) (A0 : Option Addr) (cap0 : Nat) (l : List Fm) (L : List Tok) (w : World) (hF : FormAt d) (hwi : wi = 19 - d) (hd : d ≤ 19) (hc : c ≤ 200) (hS : KSt base w w P B bp bw wi k (.slice A0 n cap0) l) (hn : l.length = n) (_hn9 : n ≤ 9) (hP : PBox w P L c) (hE : Ends L) (hT : Tn L) (er : Int) (pl : Nat) (hpar : parL d c L = .bad er pl) :
    Calls Tryz.prog 48 #[.int .i64 i, .pointer (some ⟨B, 0, none⟩), .pointer (some ⟨bp, 0, none⟩), .pointer (some ⟨bw, 0, none⟩)] w (KidPost base w P B k n l d c L) := by
  have HC : Hid (∀ x, PBox x P L c → Calls Tryz.prog 26 #[.pointer (some ⟨P, 0, none⟩), .int .i64 (wi + 1)] x fun e y => e = wrongP er pl ∧ x.grownBy y (some P)) := fun x hx => by
    have := hF P c L (wi + 1) x (by omega) hc hx hE hT
    unfold FormPost at this
    rw [hpar] at this
    exact this
  have fin : Hid (∀ x y, KSt base w x P B bp bw wi k (.slice A0 n cap0) l → x.grownBy y (some P) → KidPost base w P B k n l d c L (wrongP er pl) y) := fun x y hx hg => by
    unfold KidPost
    rw [hpar]
    exact ⟨rfl, hx.but.trans (.of hg hx.sz (fun k e => .inl (Option.some.inj e).symm) B)⟩
  clear hpar
  have Hn := hid hn
  have HS := hid hS.drew
  have HP := hid hP.drew
  have hws : IntKind.i64.wrap (wi + 1) = wi + 1 := IntWalk.i64_in _ (by omega)
  clear hF hS hn hP hE hT hwi
  go_enter Tryz.func48, Tryz.ntmps48
  obtain ⟨q0, q1⟩ := HS.out.cells
  obtain ⟨b5, bf, b9⟩ := HS.out.box
  refine wp_region_held_drew (S := fun W => W.cell? ⟨bp, 0, none⟩ = some (.pointer (some ⟨P, 0, none⟩)) ∧ W.cell? ⟨bw, 0, none⟩ = some (.int .i64 wi)) (by kernel_rfl) ⟨q0, q1⟩ (fun hHeld => ?_)
  generalize World.drew w = x0 at HS HP q0 q1 b5 bf b9 hHeld ⊢
  refine takeL (i := 0) (v := ?_) rfl (by kernel_rfl) (by kernel_rfl) (by kernel_rfl) (fun _ _ _ h => h) (Or.inl ⟨by rfl, ?_⟩) (by assumption) ?_
  rotate_left
  focus (intro w hSw; go_simp; try with_reducible rfl)
  try simp only [Act.put, List.setIfInBounds_toArray, List.set_cons_zero, List.set_cons_succ]
  refine takeL (i := 2) (v := ?_) rfl (by kernel_rfl) (by kernel_rfl) (by kernel_rfl) (fun _ _ _ h => h) (Or.inl ⟨by rfl, ?_⟩) (by assumption) ?_
  rotate_left
  focus (intro w hSw; go_simp; try with_reducible rfl)
  try simp only [Act.put, List.setIfInBounds_toArray, List.set_cons_zero, List.set_cons_succ]
  refine takeL (i := 3) (v := ?_) rfl (by kernel_rfl) (by kernel_rfl) (by kernel_rfl) (fun _ _ _ h => h) (Or.inl ⟨by rfl, ?_⟩) (by assumption) ?_
  rotate_left
  focus (intro w hSw; go_simp; try with_reducible rfl)
  try simp only [Act.put, List.setIfInBounds_toArray, List.set_cons_zero, List.set_cons_succ]
  refine takeL (i := 4) (v := ?_) rfl (by kernel_rfl) (by kernel_rfl) (by kernel_rfl) (fun _ _ _ h => h) (Or.inl ⟨by rfl, ?_⟩) (by assumption) ?_
  rotate_left
  focus (intro w hSw; go_simp; try with_reducible rfl)
  try simp only [Act.put, List.setIfInBounds_toArray, List.set_cons_zero, List.set_cons_succ]
  refine callL3 (i := 1) (j := 5) (k := 7) (by kernel_rfl) rfl rfl rfl (fun K hQ => ?_) (fun K hQ => ?_) (fun K hQ => ?_)
  · go_simp
    refine hQ.out _ _ ⟨q0, q1⟩ (fun hHeld => ?_)
    clear hQ
    try simp only [Act.put, List.setIfInBounds_toArray, List.set_cons_zero, List.set_cons_succ]
    refine takeL (i := 6) (v := ?_) rfl (by kernel_rfl) (by kernel_rfl) (by kernel_rfl) (fun _ _ _ h => h) (Or.inl ⟨by rfl, ?_⟩) (by assumption) ?_
    rotate_left
    focus (intro w hSw; go_simp; try with_reducible rfl)
    try simp only [Act.put, List.setIfInBounds_toArray, List.set_cons_zero, List.set_cons_succ]
    refine callL2 (i := 5) (j := 7) (by kernel_rfl) rfl rfl (fun K hQ => ?_) (fun K hQ => ?_)
    · go_simp
      go_at_call 26
      with_reducible refine (HC.out x0 HP.out).mono ?_
      rintro e x1 ⟨rfl, hg⟩
      exact ⟨rfl, fin.out x0 x1 HS.out hg⟩
    · go_simp
      generalize hx : World.alloc x0 _ = x2
      have HZ : Hid (SrcAt x2 6 (some ⟨x0.heap.size, 0, none⟩) 1 zero6) := by subst hx; exact src_new rfl
      have hzP : Hid (x0.heap.size ≠ P) := by have := HS.out.sz; have := HS.out.lt; show x0.heap.size ≠ P; omega
      have HS : Hid (KSt base w x2 P B bp bw wi k (.slice A0 n cap0) l) := by subst hx; exact HS.out.alloc _
      have HP : Hid (PBox x2 P L c) := by subst hx; exact HP.out.alloc _
      clear hx q0 q1 b5 bf b9
      obtain ⟨q0, q1⟩ := HS.out.cells
      obtain ⟨b5, bf, b9⟩ := HS.out.box
      refine hQ.out _ _ ⟨q0, q1⟩ (fun hHeld => ?_)
      clear hQ
      try simp only [Act.put, List.setIfInBounds_toArray, List.set_cons_zero, List.set_cons_succ]
      refine callL (i := 5) (by kernel_rfl) rfl (fun K hQ => ?_)
      go_simp
      go_at_call 26
      with_reducible refine (HC.out x2 HP.out).mono ?_
      rintro e x3 ⟨rfl, hg⟩
      exact ⟨rfl, fin.out x2 x3 HS.out hg⟩
  · go_simp
    go_at_call 26
    with_reducible refine (HC.out x0 HP.out).mono ?_
    rintro e x4 ⟨rfl, hg⟩
    exact ⟨rfl, fin.out x0 x4 HS.out hg⟩
  · go_simp
    generalize hx : World.alloc x0 _ = x5
    have HZ : Hid (SrcAt x5 6 (some ⟨x0.heap.size, 0, none⟩) 1 zero6) := by subst hx; exact src_new rfl
    have hzP : Hid (x0.heap.size ≠ P) := by have := HS.out.sz; have := HS.out.lt; show x0.heap.size ≠ P; omega
    have HS : Hid (KSt base w x5 P B bp bw wi k (.slice A0 n cap0) l) := by subst hx; exact HS.out.alloc _
    have HP : Hid (PBox x5 P L c) := by subst hx; exact HP.out.alloc _
    clear hx q0 q1 b5 bf b9
    obtain ⟨q0, q1⟩ := HS.out.cells
    obtain ⟨b5, bf, b9⟩ := HS.out.box
    refine hQ.out _ _ ⟨q0, q1⟩ (fun hHeld => ?_)
    clear hQ
    try simp only [Act.put, List.setIfInBounds_toArray, List.set_cons_zero, List.set_cons_succ]
    refine callL2 (i := 1) (j := 5) (by kernel_rfl) rfl rfl (fun K hQ => ?_) (fun K hQ => ?_)
    · go_simp
      refine hQ.out _ _ ⟨q0, q1⟩ (fun hHeld => ?_)
      clear hQ
      try simp only [Act.put, List.setIfInBounds_toArray, List.set_cons_zero, List.set_cons_succ]
      refine takeL (i := 6) (v := ?_) rfl (by kernel_rfl) (by kernel_rfl) (by kernel_rfl) (fun _ _ _ h => h) (Or.inl ⟨by rfl, ?_⟩) (by assumption) ?_
      rotate_left
      focus (intro w hSw; go_simp; try with_reducible rfl)
      try simp only [Act.put, List.setIfInBounds_toArray, List.set_cons_zero, List.set_cons_succ]
      refine callL (i := 5) (by kernel_rfl) rfl (fun K hQ => ?_)
      go_simp
      go_at_call 26
      with_reducible refine (HC.out x5 HP.out).mono ?_
      rintro e x6 ⟨rfl, hg⟩
      exact ⟨rfl, fin.out x5 x6 HS.out hg⟩
    · go_simp
      go_at_call 26
      with_reducible refine (HC.out x5 HP.out).mono ?_
      rintro e x7 ⟨rfl, hg⟩
      exact ⟨rfl, fin.out x5 x7 HS.out hg⟩
set_option maxRecDepth 100000 in
set_option maxHeartbeats 8000000 in
theorem kid_ok (base : Nat) (P B bp bw n d c i : Nat) (wi k : Int) (A0 : Option Addr) (cap0 : Nat) (l : List Fm) (L : List Tok) (w : World) (hF : FormAt d) (hwi : wi = 19 - d) (hd : d ≤ 19) (hc : c ≤ 200) (hS : KSt base w w P B bp bw wi k (.slice A0 n cap0) l) (hn : l.length = n) (hn9 : n ≤ 9) (hP : PBox w P L c) (hE : Ends L) (hT : Tn L) (f : Fm) (L2 : List Tok) (c2 : Nat) (hpar : parL d c L = .ok (f, L2, c2)) :
    Calls Tryz.prog 48 #[.int .i64 i, .pointer (some ⟨B, 0, none⟩), .pointer (some ⟨bp, 0, none⟩), .pointer (some ⟨bw, 0, none⟩)] w (KidPost base w P B k n l d c L) := by
  have HC : Hid (∀ x, PBox x P L c → Calls Tryz.prog 26 #[.pointer (some ⟨P, 0, none⟩), .int .i64 (wi + 1)] x fun e y => ∃ a cap, e = .returned (.agg #[.int .i64 f.kind, .int .i64 f.prop.k, .int .i64 f.prop.t, .int .i64 f.prop.a, .int .i64 f.prop.n, .slice a f.kids.length cap]) ∧ FmIn y (New x y) (fmC f.kind f.prop a f.kids.length cap) f ∧ PBox y P L2 c2 ∧ x.grownBy y (some P)) := fun x hx => by
    have := hF P c L (wi + 1) x (by omega) hc hx hE hT
    unfold FormPost at this
    rw [hpar] at this
    exact this
  have fin : Hid (∀ {y : World}, ((∃ A cap, y.heap[B]? = some (fmO k Pr.zero (.slice A (n + 1) cap)) ∧ Kds y base (.slice A (n + 1) cap) (l ++ [f])) ∧ PBox y P L2 c2 ∧ But3 base w y P B) → KidPost base w P B k n l d c L (.returned (.tuple #[])) y) := fun h => by
    unfold KidPost
    rw [hpar]
    exact ⟨rfl, h⟩
  clear hpar
  have Hn := hid hn
  have HS := hid hS.drew
  have HP := hid hP.drew
  have hws : IntKind.i64.wrap (wi + 1) = wi + 1 := IntWalk.i64_in _ (by omega)
  clear hF hS hn hP hE hT hwi
  go_enter Tryz.func48, Tryz.ntmps48
  obtain ⟨q0, q1⟩ := HS.out.cells
  obtain ⟨b5, bf, b9⟩ := HS.out.box
  refine wp_region_held_drew (S := fun W => W.cell? ⟨bp, 0, none⟩ = some (.pointer (some ⟨P, 0, none⟩)) ∧ W.cell? ⟨bw, 0, none⟩ = some (.int .i64 wi)) (by kernel_rfl) ⟨q0, q1⟩ (fun hHeld => ?_)
  generalize World.drew w = x0 at HS HP q0 q1 b5 bf b9 hHeld ⊢
  refine takeL (i := 0) (v := ?_) rfl (by kernel_rfl) (by kernel_rfl) (by kernel_rfl) (fun _ _ _ h => h) (Or.inl ⟨by rfl, ?_⟩) (by assumption) ?_
  rotate_left
  focus (intro w hSw; go_simp; try with_reducible rfl)
  try simp only [Act.put, List.setIfInBounds_toArray, List.set_cons_zero, List.set_cons_succ]
  refine takeL (i := 2) (v := ?_) rfl (by kernel_rfl) (by kernel_rfl) (by kernel_rfl) (fun _ _ _ h => h) (Or.inl ⟨by rfl, ?_⟩) (by assumption) ?_
  rotate_left
  focus (intro w hSw; go_simp; try with_reducible rfl)
  try simp only [Act.put, List.setIfInBounds_toArray, List.set_cons_zero, List.set_cons_succ]
  refine takeL (i := 3) (v := ?_) rfl (by kernel_rfl) (by kernel_rfl) (by kernel_rfl) (fun _ _ _ h => h) (Or.inl ⟨by rfl, ?_⟩) (by assumption) ?_
  rotate_left
  focus (intro w hSw; go_simp; try with_reducible rfl)
  try simp only [Act.put, List.setIfInBounds_toArray, List.set_cons_zero, List.set_cons_succ]
  refine takeL (i := 4) (v := ?_) rfl (by kernel_rfl) (by kernel_rfl) (by kernel_rfl) (fun _ _ _ h => h) (Or.inl ⟨by rfl, ?_⟩) (by assumption) ?_
  rotate_left
  focus (intro w hSw; go_simp; try with_reducible rfl)
  try simp only [Act.put, List.setIfInBounds_toArray, List.set_cons_zero, List.set_cons_succ]
  refine callL3 (i := 1) (j := 5) (k := 7) (by kernel_rfl) rfl rfl rfl (fun K hQ => ?_) (fun K hQ => ?_) (fun K hQ => ?_)
  · go_simp
    refine hQ.out _ _ ⟨q0, q1⟩ (fun hHeld => ?_)
    clear hQ
    try simp only [Act.put, List.setIfInBounds_toArray, List.set_cons_zero, List.set_cons_succ]
    refine takeL (i := 6) (v := ?_) rfl (by kernel_rfl) (by kernel_rfl) (by kernel_rfl) (fun _ _ _ h => h) (Or.inl ⟨by rfl, ?_⟩) (by assumption) ?_
    rotate_left
    focus (intro w hSw; go_simp; try with_reducible rfl)
    try simp only [Act.put, List.setIfInBounds_toArray, List.set_cons_zero, List.set_cons_succ]
    refine callL2 (i := 5) (j := 7) (by kernel_rfl) rfl rfl (fun K hQ => ?_) (fun K hQ => ?_)
    · go_simp
      go_at_call 26
      with_reducible refine (HC.out x0 HP.out).mono ?_
      rintro e x8 ⟨a, cap1, rfl, hf, hP2, hg⟩
      have HF := hid (HS.out.made hf)
      have HS := hid (HS.out.grown hg fun k e => (Option.some.inj e).symm)
      have HP := hid hP2
      clear hf hP2 hg q0 q1 b5 bf b9
      obtain ⟨q0, q1⟩ := HS.out.cells
      obtain ⟨b5, bf, b9⟩ := HS.out.box
      refine hQ.out _ _ ⟨q0, q1⟩ (fun hHeld => ?_)
      clear hQ
      try simp only [Act.put, List.setIfInBounds_toArray, List.set_cons_zero, List.set_cons_succ]
      refine callL (i := 7) (by kernel_rfl) rfl (fun K hQ => ?_)
      go_simp
      generalize hx : World.alloc x8 _ = x9
      have HZ : Hid (SrcAt x9 6 (some ⟨x8.heap.size, 0, none⟩) 1 zero6) := by subst hx; exact src_new rfl
      have hzP : Hid (x8.heap.size ≠ P) := by have := HS.out.sz; have := HS.out.lt; show x8.heap.size ≠ P; omega
      have HF : Hid (FmIn x9 (Ks base x9 (.slice A0 n cap0)) (fmC f.kind f.prop a f.kids.length cap1) f) := by subst hx; exact KSt.made_alloc HF.out _
      have HS : Hid (KSt base w x9 P B bp bw wi k (.slice A0 n cap0) l) := by subst hx; exact HS.out.alloc _
      have HP : Hid (PBox x9 P L2 c2) := by subst hx; exact HP.out.alloc _
      clear hx q0 q1 b5 bf b9
      obtain ⟨q0, q1⟩ := HS.out.cells
      obtain ⟨b5, bf, b9⟩ := HS.out.box
      refine hQ.out _ _ ⟨q0, q1⟩ (fun hHeld => ?_)
      clear hQ
      try simp only [Act.put, List.setIfInBounds_toArray, List.set_cons_zero, List.set_cons_succ]
      refine callL (i := 8) (by kernel_rfl) rfl (fun K hQ => ?_)
      obtain ⟨LL, rfl, hown, hxl, hLL⟩ := HS.out.kd.open_
      rw [Hn.out] at hown hxl
      have hll := Hn.out
      rw [List.length_map] at hll
      refine step_zero (base := base) (.tmp 6) (.tmp 12) (.slice A0 n cap0) n (LL.flatMap fxC) ?_ ?_ ?_ hown ⟨_, _, rfl, HZ.out⟩ (by omega) HS.out.sz ?_
      · rfl
      · rfl
      · rfl
      intro v2 W2 hA
      obtain ⟨g, cap2, rfl, hg1, hg2, hle, hmx, hcl, hfz⟩ := hA.form hxl
      have fin := hid (fun W3 hW3 => fin.out (KSt.fin (W2 := W3) HS.out hll hLL HF.out HP.out hA hg1 hW3))
      have hkeep : ∀ b, b < base → W2.heap[b]? = x9.heap[b]? := fun b hb => hA.gr.block b (by have := HS.out.sz; omega) fun e => by have := (HS.out.kd.own b e.symm).1; omega
      have hl2 := HS.out.lt
      have hbp := HS.out.bp.2
      have hbw := HS.out.bw.2
      have q0 : W2.cell? ⟨bp, 0, none⟩ = some (.pointer (some ⟨P, 0, none⟩)) := (World.cell?_of_block (w := x9) (a := ⟨bp, 0, none⟩) (hkeep bp hbp.1)).trans q0
      have q1 : W2.cell? ⟨bw, 0, none⟩ = some (.int .i64 wi) := (World.cell?_of_block (w := x9) (a := ⟨bw, 0, none⟩) (hkeep bw hbw.1)).trans q1
      have b5 : W2.cell? ⟨B, 5, none⟩ = some (.slice A0 n cap0) := (World.cell?_of_block (w := x9) (a := ⟨B, 5, none⟩) (hkeep B hl2.2)).trans b5
      have bf : W2.frozen? ⟨B, 5, none⟩ = false := (World.frozen?_of_block (w := x9) (a := ⟨B, 5, none⟩) (hkeep B hl2.2)).trans (bf 5)
      obtain ⟨u0, e0⟩ := hcl 0 (by omega)
      obtain ⟨u1, e1⟩ := hcl 1 (by omega)
      obtain ⟨u2, e2⟩ := hcl 2 (by omega)
      obtain ⟨u3, e3⟩ := hcl 3 (by omega)
      obtain ⟨u4, e4⟩ := hcl 4 (by omega)
      obtain ⟨u5, e5⟩ := hcl 5 (by omega)
      rw [Nat.add_zero] at e0
      have z0 := hfz (n * 6)
      have z1 := hfz (n * 6 + 1)
      have z2 := hfz (n * 6 + 2)
      have z3 := hfz (n * 6 + 3)
      have z4 := hfz (n * 6 + 4)
      have z5 := hfz (n * 6 + 5)
      have n0 : (0 : Int) ≤ n := by omega
      have n1 : (n : Int) < (n : Int) + 1 := by omega
      have n2 : n < n + 1 := by omega
      have d1 : g ≠ B := by omega
      have d2 : B ≠ g := by omega
      have d3 : bp ≠ g := by omega
      have d4 : bw ≠ g := by omega
      have d5 : bp ≠ B := hbp.2.2
      have d6 : bw ≠ B := hbw.2.2
      have HX := hid (And.intro hA (And.intro hkeep (And.intro hown (And.intro hxl (And.intro hll hLL)))))
      clear hA hkeep hown hxl hll hLL hcl hfz hle hmx
      refine hQ.out _ _ ⟨q0, q1⟩ (fun hHeld => ?_)
      clear hQ
      try simp only [Act.put, List.setIfInBounds_toArray, List.set_cons_zero, List.set_cons_succ]
      refine takeL (i := 9) (v := ?_) rfl (by kernel_rfl) (by kernel_rfl) (by kernel_rfl) (fun _ _ _ h => h) (Or.inl ⟨by rfl, ?_⟩) (by assumption) ?_
      rotate_left
      focus (intro w hSw; go_simp; try with_reducible rfl)
      try simp only [Act.put, List.setIfInBounds_toArray, List.set_cons_zero, List.set_cons_succ]
      refine takeL (i := 11) (v := ?_) rfl (by kernel_rfl) (by kernel_rfl) (by kernel_rfl) (fun _ _ _ h => h) (Or.inl ⟨by rfl, ?_⟩) (by assumption) ?_
      rotate_left
      focus (intro w hSw; go_simp; try with_reducible rfl)
      try simp only [Act.put, List.setIfInBounds_toArray, List.set_cons_zero, List.set_cons_succ]
      refine callL2 (i := 10) (j := 12) (by kernel_rfl) rfl rfl (fun K hQ => ?_) (fun K hQ => ?_)
      · go_simp
        have q0' := q0
        have q1' := q1
        refine hQ.out _ _ ⟨by go_simp, by go_simp⟩ (fun hHeld => ?_)
        clear hQ
        try simp only [Act.put, List.setIfInBounds_toArray, List.set_cons_zero, List.set_cons_succ]
        refine callL (i := 12) (by kernel_rfl) rfl (fun K hQ => ?_)
        go_simp
        refine hQ.out _ _ ⟨by go_simp, by go_simp⟩ (fun hHeld => ?_)
        clear hQ
        try simp only [Act.put, List.setIfInBounds_toArray, List.set_cons_zero, List.set_cons_succ]
        refine wpAnyH_done (by kernel_rfl) ?_ _
        go_wp2_with fail
        go_end0
        exact fin.out _ (.inl rfl)
      · go_simp
        refine hQ.out _ _ ⟨by go_simp, by go_simp⟩ (fun hHeld => ?_)
        clear hQ
        try simp only [Act.put, List.setIfInBounds_toArray, List.set_cons_zero, List.set_cons_succ]
        refine callL (i := 10) (by kernel_rfl) rfl (fun K hQ => ?_)
        go_simp
        have q0' := q0
        have q1' := q1
        refine hQ.out _ _ ⟨by go_simp, by go_simp⟩ (fun hHeld => ?_)
        clear hQ
        try simp only [Act.put, List.setIfInBounds_toArray, List.set_cons_zero, List.set_cons_succ]
        refine wpAnyH_done (by kernel_rfl) ?_ _
        go_wp2_with fail
        go_end0
        exact fin.out _ (.inr rfl)
    · go_simp
      generalize hx : World.alloc x0 _ = x10
      have HZ : Hid (SrcAt x10 6 (some ⟨x0.heap.size, 0, none⟩) 1 zero6) := by subst hx; exact src_new rfl
      have hzP : Hid (x0.heap.size ≠ P) := by have := HS.out.sz; have := HS.out.lt; show x0.heap.size ≠ P; omega
      have HS : Hid (KSt base w x10 P B bp bw wi k (.slice A0 n cap0) l) := by subst hx; exact HS.out.alloc _
      have HP : Hid (PBox x10 P L c) := by subst hx; exact HP.out.alloc _
      clear hx q0 q1 b5 bf b9
      obtain ⟨q0, q1⟩ := HS.out.cells
      obtain ⟨b5, bf, b9⟩ := HS.out.box
      refine hQ.out _ _ ⟨q0, q1⟩ (fun hHeld => ?_)
      clear hQ
      try simp only [Act.put, List.setIfInBounds_toArray, List.set_cons_zero, List.set_cons_succ]
      refine callL (i := 5) (by kernel_rfl) rfl (fun K hQ => ?_)
      go_simp
      go_at_call 26
      with_reducible refine (HC.out x10 HP.out).mono ?_
      rintro e x11 ⟨a, cap1, rfl, hf, hP2, hg⟩
      have HF := hid (HS.out.made hf)
      have HZ := hid (SrcAt.grown HZ.out hg (.inr fun ad had => by cases had; intro e; exact hzP.out (Option.some.inj e)))
      have HS := hid (HS.out.grown hg fun k e => (Option.some.inj e).symm)
      have HP := hid hP2
      clear hf hP2 hg q0 q1 b5 bf b9
      obtain ⟨q0, q1⟩ := HS.out.cells
      obtain ⟨b5, bf, b9⟩ := HS.out.box
      refine hQ.out _ _ ⟨q0, q1⟩ (fun hHeld => ?_)
      clear hQ
      try simp only [Act.put, List.setIfInBounds_toArray, List.set_cons_zero, List.set_cons_succ]
      refine callL (i := 8) (by kernel_rfl) rfl (fun K hQ => ?_)
      obtain ⟨LL, rfl, hown, hxl, hLL⟩ := HS.out.kd.open_
      rw [Hn.out] at hown hxl
      have hll := Hn.out
      rw [List.length_map] at hll
      refine step_zero (base := base) (.tmp 6) (.tmp 12) (.slice A0 n cap0) n (LL.flatMap fxC) ?_ ?_ ?_ hown ⟨_, _, rfl, HZ.out⟩ (by omega) HS.out.sz ?_
      · rfl
      · rfl
      · rfl
      intro v2 W2 hA
      obtain ⟨g, cap2, rfl, hg1, hg2, hle, hmx, hcl, hfz⟩ := hA.form hxl
      have fin := hid (fun W3 hW3 => fin.out (KSt.fin (W2 := W3) HS.out hll hLL HF.out HP.out hA hg1 hW3))
      have hkeep : ∀ b, b < base → W2.heap[b]? = x11.heap[b]? := fun b hb => hA.gr.block b (by have := HS.out.sz; omega) fun e => by have := (HS.out.kd.own b e.symm).1; omega
      have hl2 := HS.out.lt
      have hbp := HS.out.bp.2
      have hbw := HS.out.bw.2
      have q0 : W2.cell? ⟨bp, 0, none⟩ = some (.pointer (some ⟨P, 0, none⟩)) := (World.cell?_of_block (w := x11) (a := ⟨bp, 0, none⟩) (hkeep bp hbp.1)).trans q0
      have q1 : W2.cell? ⟨bw, 0, none⟩ = some (.int .i64 wi) := (World.cell?_of_block (w := x11) (a := ⟨bw, 0, none⟩) (hkeep bw hbw.1)).trans q1
      have b5 : W2.cell? ⟨B, 5, none⟩ = some (.slice A0 n cap0) := (World.cell?_of_block (w := x11) (a := ⟨B, 5, none⟩) (hkeep B hl2.2)).trans b5
      have bf : W2.frozen? ⟨B, 5, none⟩ = false := (World.frozen?_of_block (w := x11) (a := ⟨B, 5, none⟩) (hkeep B hl2.2)).trans (bf 5)
      obtain ⟨u0, e0⟩ := hcl 0 (by omega)
      obtain ⟨u1, e1⟩ := hcl 1 (by omega)
      obtain ⟨u2, e2⟩ := hcl 2 (by omega)
      obtain ⟨u3, e3⟩ := hcl 3 (by omega)
      obtain ⟨u4, e4⟩ := hcl 4 (by omega)
      obtain ⟨u5, e5⟩ := hcl 5 (by omega)
      rw [Nat.add_zero] at e0
      have z0 := hfz (n * 6)
      have z1 := hfz (n * 6 + 1)
      have z2 := hfz (n * 6 + 2)
      have z3 := hfz (n * 6 + 3)
      have z4 := hfz (n * 6 + 4)
      have z5 := hfz (n * 6 + 5)
      have n0 : (0 : Int) ≤ n := by omega
      have n1 : (n : Int) < (n : Int) + 1 := by omega
      have n2 : n < n + 1 := by omega
      have d1 : g ≠ B := by omega
      have d2 : B ≠ g := by omega
      have d3 : bp ≠ g := by omega
      have d4 : bw ≠ g := by omega
      have d5 : bp ≠ B := hbp.2.2
      have d6 : bw ≠ B := hbw.2.2
      have HX := hid (And.intro hA (And.intro hkeep (And.intro hown (And.intro hxl (And.intro hll hLL)))))
      clear hA hkeep hown hxl hll hLL hcl hfz hle hmx
      refine hQ.out _ _ ⟨q0, q1⟩ (fun hHeld => ?_)
      clear hQ
      try simp only [Act.put, List.setIfInBounds_toArray, List.set_cons_zero, List.set_cons_succ]
      refine takeL (i := 9) (v := ?_) rfl (by kernel_rfl) (by kernel_rfl) (by kernel_rfl) (fun _ _ _ h => h) (Or.inl ⟨by rfl, ?_⟩) (by assumption) ?_
      rotate_left
      focus (intro w hSw; go_simp; try with_reducible rfl)
      try simp only [Act.put, List.setIfInBounds_toArray, List.set_cons_zero, List.set_cons_succ]
      refine takeL (i := 11) (v := ?_) rfl (by kernel_rfl) (by kernel_rfl) (by kernel_rfl) (fun _ _ _ h => h) (Or.inl ⟨by rfl, ?_⟩) (by assumption) ?_
      rotate_left
      focus (intro w hSw; go_simp; try with_reducible rfl)
      try simp only [Act.put, List.setIfInBounds_toArray, List.set_cons_zero, List.set_cons_succ]
      refine callL2 (i := 10) (j := 12) (by kernel_rfl) rfl rfl (fun K hQ => ?_) (fun K hQ => ?_)
      · go_simp
        have q0' := q0
        have q1' := q1
        refine hQ.out _ _ ⟨by go_simp, by go_simp⟩ (fun hHeld => ?_)
        clear hQ
        try simp only [Act.put, List.setIfInBounds_toArray, List.set_cons_zero, List.set_cons_succ]
        refine callL (i := 12) (by kernel_rfl) rfl (fun K hQ => ?_)
        go_simp
        refine hQ.out _ _ ⟨by go_simp, by go_simp⟩ (fun hHeld => ?_)
        clear hQ
        try simp only [Act.put, List.setIfInBounds_toArray, List.set_cons_zero, List.set_cons_succ]
        refine wpAnyH_done (by kernel_rfl) ?_ _
        go_wp2_with fail
        go_end0
        exact fin.out _ (.inl rfl)
      · go_simp
        refine hQ.out _ _ ⟨by go_simp, by go_simp⟩ (fun hHeld => ?_)
        clear hQ
        try simp only [Act.put, List.setIfInBounds_toArray, List.set_cons_zero, List.set_cons_succ]
        refine callL (i := 10) (by kernel_rfl) rfl (fun K hQ => ?_)
        go_simp
        have q0' := q0
        have q1' := q1
        refine hQ.out _ _ ⟨by go_simp, by go_simp⟩ (fun hHeld => ?_)
        clear hQ
        try simp only [Act.put, List.setIfInBounds_toArray, List.set_cons_zero, List.set_cons_succ]
        refine wpAnyH_done (by kernel_rfl) ?_ _
        go_wp2_with fail
        go_end0
        exact fin.out _ (.inr rfl)
  · go_simp
    go_at_call 26
    with_reducible refine (HC.out x0 HP.out).mono ?_
    rintro e x12 ⟨a, cap1, rfl, hf, hP2, hg⟩
    have HF := hid (HS.out.made hf)
    have HS := hid (HS.out.grown hg fun k e => (Option.some.inj e).symm)
    have HP := hid hP2
    clear hf hP2 hg q0 q1 b5 bf b9
    obtain ⟨q0, q1⟩ := HS.out.cells
    obtain ⟨b5, bf, b9⟩ := HS.out.box
    refine hQ.out _ _ ⟨q0, q1⟩ (fun hHeld => ?_)
    clear hQ
    try simp only [Act.put, List.setIfInBounds_toArray, List.set_cons_zero, List.set_cons_succ]
    refine callL2 (i := 1) (j := 7) (by kernel_rfl) rfl rfl (fun K hQ => ?_) (fun K hQ => ?_)
    · go_simp
      refine hQ.out _ _ ⟨q0, q1⟩ (fun hHeld => ?_)
      clear hQ
      try simp only [Act.put, List.setIfInBounds_toArray, List.set_cons_zero, List.set_cons_succ]
      refine takeL (i := 6) (v := ?_) rfl (by kernel_rfl) (by kernel_rfl) (by kernel_rfl) (fun _ _ _ h => h) (Or.inl ⟨by rfl, ?_⟩) (by assumption) ?_
      rotate_left
      focus (intro w hSw; go_simp; try with_reducible rfl)
      try simp only [Act.put, List.setIfInBounds_toArray, List.set_cons_zero, List.set_cons_succ]
      refine callL (i := 7) (by kernel_rfl) rfl (fun K hQ => ?_)
      go_simp
      generalize hx : World.alloc x12 _ = x13
      have HZ : Hid (SrcAt x13 6 (some ⟨x12.heap.size, 0, none⟩) 1 zero6) := by subst hx; exact src_new rfl
      have hzP : Hid (x12.heap.size ≠ P) := by have := HS.out.sz; have := HS.out.lt; show x12.heap.size ≠ P; omega
      have HF : Hid (FmIn x13 (Ks base x13 (.slice A0 n cap0)) (fmC f.kind f.prop a f.kids.length cap1) f) := by subst hx; exact KSt.made_alloc HF.out _
      have HS : Hid (KSt base w x13 P B bp bw wi k (.slice A0 n cap0) l) := by subst hx; exact HS.out.alloc _
      have HP : Hid (PBox x13 P L2 c2) := by subst hx; exact HP.out.alloc _
      clear hx q0 q1 b5 bf b9
      obtain ⟨q0, q1⟩ := HS.out.cells
      obtain ⟨b5, bf, b9⟩ := HS.out.box
      refine hQ.out _ _ ⟨q0, q1⟩ (fun hHeld => ?_)
      clear hQ
      try simp only [Act.put, List.setIfInBounds_toArray, List.set_cons_zero, List.set_cons_succ]
      refine callL (i := 8) (by kernel_rfl) rfl (fun K hQ => ?_)
      obtain ⟨LL, rfl, hown, hxl, hLL⟩ := HS.out.kd.open_
      rw [Hn.out] at hown hxl
      have hll := Hn.out
      rw [List.length_map] at hll
      refine step_zero (base := base) (.tmp 6) (.tmp 12) (.slice A0 n cap0) n (LL.flatMap fxC) ?_ ?_ ?_ hown ⟨_, _, rfl, HZ.out⟩ (by omega) HS.out.sz ?_
      · rfl
      · rfl
      · rfl
      intro v2 W2 hA
      obtain ⟨g, cap2, rfl, hg1, hg2, hle, hmx, hcl, hfz⟩ := hA.form hxl
      have fin := hid (fun W3 hW3 => fin.out (KSt.fin (W2 := W3) HS.out hll hLL HF.out HP.out hA hg1 hW3))
      have hkeep : ∀ b, b < base → W2.heap[b]? = x13.heap[b]? := fun b hb => hA.gr.block b (by have := HS.out.sz; omega) fun e => by have := (HS.out.kd.own b e.symm).1; omega
      have hl2 := HS.out.lt
      have hbp := HS.out.bp.2
      have hbw := HS.out.bw.2
      have q0 : W2.cell? ⟨bp, 0, none⟩ = some (.pointer (some ⟨P, 0, none⟩)) := (World.cell?_of_block (w := x13) (a := ⟨bp, 0, none⟩) (hkeep bp hbp.1)).trans q0
      have q1 : W2.cell? ⟨bw, 0, none⟩ = some (.int .i64 wi) := (World.cell?_of_block (w := x13) (a := ⟨bw, 0, none⟩) (hkeep bw hbw.1)).trans q1
      have b5 : W2.cell? ⟨B, 5, none⟩ = some (.slice A0 n cap0) := (World.cell?_of_block (w := x13) (a := ⟨B, 5, none⟩) (hkeep B hl2.2)).trans b5
      have bf : W2.frozen? ⟨B, 5, none⟩ = false := (World.frozen?_of_block (w := x13) (a := ⟨B, 5, none⟩) (hkeep B hl2.2)).trans (bf 5)
      obtain ⟨u0, e0⟩ := hcl 0 (by omega)
      obtain ⟨u1, e1⟩ := hcl 1 (by omega)
      obtain ⟨u2, e2⟩ := hcl 2 (by omega)
      obtain ⟨u3, e3⟩ := hcl 3 (by omega)
      obtain ⟨u4, e4⟩ := hcl 4 (by omega)
      obtain ⟨u5, e5⟩ := hcl 5 (by omega)
      rw [Nat.add_zero] at e0
      have z0 := hfz (n * 6)
      have z1 := hfz (n * 6 + 1)
      have z2 := hfz (n * 6 + 2)
      have z3 := hfz (n * 6 + 3)
      have z4 := hfz (n * 6 + 4)
      have z5 := hfz (n * 6 + 5)
      have n0 : (0 : Int) ≤ n := by omega
      have n1 : (n : Int) < (n : Int) + 1 := by omega
      have n2 : n < n + 1 := by omega
      have d1 : g ≠ B := by omega
      have d2 : B ≠ g := by omega
      have d3 : bp ≠ g := by omega
      have d4 : bw ≠ g := by omega
      have d5 : bp ≠ B := hbp.2.2
      have d6 : bw ≠ B := hbw.2.2
      have HX := hid (And.intro hA (And.intro hkeep (And.intro hown (And.intro hxl (And.intro hll hLL)))))
      clear hA hkeep hown hxl hll hLL hcl hfz hle hmx
      refine hQ.out _ _ ⟨q0, q1⟩ (fun hHeld => ?_)
      clear hQ
      try simp only [Act.put, List.setIfInBounds_toArray, List.set_cons_zero, List.set_cons_succ]
      refine takeL (i := 9) (v := ?_) rfl (by kernel_rfl) (by kernel_rfl) (by kernel_rfl) (fun _ _ _ h => h) (Or.inl ⟨by rfl, ?_⟩) (by assumption) ?_
      rotate_left
      focus (intro w hSw; go_simp; try with_reducible rfl)
      try simp only [Act.put, List.setIfInBounds_toArray, List.set_cons_zero, List.set_cons_succ]
      refine takeL (i := 11) (v := ?_) rfl (by kernel_rfl) (by kernel_rfl) (by kernel_rfl) (fun _ _ _ h => h) (Or.inl ⟨by rfl, ?_⟩) (by assumption) ?_
      rotate_left
      focus (intro w hSw; go_simp; try with_reducible rfl)
      try simp only [Act.put, List.setIfInBounds_toArray, List.set_cons_zero, List.set_cons_succ]
      refine callL2 (i := 10) (j := 12) (by kernel_rfl) rfl rfl (fun K hQ => ?_) (fun K hQ => ?_)
      · go_simp
        have q0' := q0
        have q1' := q1
        refine hQ.out _ _ ⟨by go_simp, by go_simp⟩ (fun hHeld => ?_)
        clear hQ
        try simp only [Act.put, List.setIfInBounds_toArray, List.set_cons_zero, List.set_cons_succ]
        refine callL (i := 12) (by kernel_rfl) rfl (fun K hQ => ?_)
        go_simp
        refine hQ.out _ _ ⟨by go_simp, by go_simp⟩ (fun hHeld => ?_)
        clear hQ
        try simp only [Act.put, List.setIfInBounds_toArray, List.set_cons_zero, List.set_cons_succ]
        refine wpAnyH_done (by kernel_rfl) ?_ _
        go_wp2_with fail
        go_end0
        exact fin.out _ (.inl rfl)
      · go_simp
        refine hQ.out _ _ ⟨by go_simp, by go_simp⟩ (fun hHeld => ?_)
        clear hQ
        try simp only [Act.put, List.setIfInBounds_toArray, List.set_cons_zero, List.set_cons_succ]
        refine callL (i := 10) (by kernel_rfl) rfl (fun K hQ => ?_)
        go_simp
        have q0' := q0
        have q1' := q1
        refine hQ.out _ _ ⟨by go_simp, by go_simp⟩ (fun hHeld => ?_)
        clear hQ
        try simp only [Act.put, List.setIfInBounds_toArray, List.set_cons_zero, List.set_cons_succ]
        refine wpAnyH_done (by kernel_rfl) ?_ _
        go_wp2_with fail
        go_end0
        exact fin.out _ (.inr rfl)
    · go_simp
      generalize hx : World.alloc x12 _ = x14
      have HZ : Hid (SrcAt x14 6 (some ⟨x12.heap.size, 0, none⟩) 1 zero6) := by subst hx; exact src_new rfl
      have hzP : Hid (x12.heap.size ≠ P) := by have := HS.out.sz; have := HS.out.lt; show x12.heap.size ≠ P; omega
      have HF : Hid (FmIn x14 (Ks base x14 (.slice A0 n cap0)) (fmC f.kind f.prop a f.kids.length cap1) f) := by subst hx; exact KSt.made_alloc HF.out _
      have HS : Hid (KSt base w x14 P B bp bw wi k (.slice A0 n cap0) l) := by subst hx; exact HS.out.alloc _
      have HP : Hid (PBox x14 P L2 c2) := by subst hx; exact HP.out.alloc _
      clear hx q0 q1 b5 bf b9
      obtain ⟨q0, q1⟩ := HS.out.cells
      obtain ⟨b5, bf, b9⟩ := HS.out.box
      refine hQ.out _ _ ⟨q0, q1⟩ (fun hHeld => ?_)
      clear hQ
      try simp only [Act.put, List.setIfInBounds_toArray, List.set_cons_zero, List.set_cons_succ]
      refine callL (i := 1) (by kernel_rfl) rfl (fun K hQ => ?_)
      go_simp
      refine hQ.out _ _ ⟨q0, q1⟩ (fun hHeld => ?_)
      clear hQ
      try simp only [Act.put, List.setIfInBounds_toArray, List.set_cons_zero, List.set_cons_succ]
      refine takeL (i := 6) (v := ?_) rfl (by kernel_rfl) (by kernel_rfl) (by kernel_rfl) (fun _ _ _ h => h) (Or.inl ⟨by rfl, ?_⟩) (by assumption) ?_
      rotate_left
      focus (intro w hSw; go_simp; try with_reducible rfl)
      try simp only [Act.put, List.setIfInBounds_toArray, List.set_cons_zero, List.set_cons_succ]
      refine callL (i := 8) (by kernel_rfl) rfl (fun K hQ => ?_)
      obtain ⟨LL, rfl, hown, hxl, hLL⟩ := HS.out.kd.open_
      rw [Hn.out] at hown hxl
      have hll := Hn.out
      rw [List.length_map] at hll
      refine step_zero (base := base) (.tmp 6) (.tmp 12) (.slice A0 n cap0) n (LL.flatMap fxC) ?_ ?_ ?_ hown ⟨_, _, rfl, HZ.out⟩ (by omega) HS.out.sz ?_
      · rfl
      · rfl
      · rfl
      intro v2 W2 hA
      obtain ⟨g, cap2, rfl, hg1, hg2, hle, hmx, hcl, hfz⟩ := hA.form hxl
      have fin := hid (fun W3 hW3 => fin.out (KSt.fin (W2 := W3) HS.out hll hLL HF.out HP.out hA hg1 hW3))
      have hkeep : ∀ b, b < base → W2.heap[b]? = x14.heap[b]? := fun b hb => hA.gr.block b (by have := HS.out.sz; omega) fun e => by have := (HS.out.kd.own b e.symm).1; omega
      have hl2 := HS.out.lt
      have hbp := HS.out.bp.2
      have hbw := HS.out.bw.2
      have q0 : W2.cell? ⟨bp, 0, none⟩ = some (.pointer (some ⟨P, 0, none⟩)) := (World.cell?_of_block (w := x14) (a := ⟨bp, 0, none⟩) (hkeep bp hbp.1)).trans q0
      have q1 : W2.cell? ⟨bw, 0, none⟩ = some (.int .i64 wi) := (World.cell?_of_block (w := x14) (a := ⟨bw, 0, none⟩) (hkeep bw hbw.1)).trans q1
      have b5 : W2.cell? ⟨B, 5, none⟩ = some (.slice A0 n cap0) := (World.cell?_of_block (w := x14) (a := ⟨B, 5, none⟩) (hkeep B hl2.2)).trans b5
      have bf : W2.frozen? ⟨B, 5, none⟩ = false := (World.frozen?_of_block (w := x14) (a := ⟨B, 5, none⟩) (hkeep B hl2.2)).trans (bf 5)
      obtain ⟨u0, e0⟩ := hcl 0 (by omega)
      obtain ⟨u1, e1⟩ := hcl 1 (by omega)
      obtain ⟨u2, e2⟩ := hcl 2 (by omega)
      obtain ⟨u3, e3⟩ := hcl 3 (by omega)
      obtain ⟨u4, e4⟩ := hcl 4 (by omega)
      obtain ⟨u5, e5⟩ := hcl 5 (by omega)
      rw [Nat.add_zero] at e0
      have z0 := hfz (n * 6)
      have z1 := hfz (n * 6 + 1)
      have z2 := hfz (n * 6 + 2)
      have z3 := hfz (n * 6 + 3)
      have z4 := hfz (n * 6 + 4)
      have z5 := hfz (n * 6 + 5)
      have n0 : (0 : Int) ≤ n := by omega
      have n1 : (n : Int) < (n : Int) + 1 := by omega
      have n2 : n < n + 1 := by omega
      have d1 : g ≠ B := by omega
      have d2 : B ≠ g := by omega
      have d3 : bp ≠ g := by omega
      have d4 : bw ≠ g := by omega
      have d5 : bp ≠ B := hbp.2.2
      have d6 : bw ≠ B := hbw.2.2
      have HX := hid (And.intro hA (And.intro hkeep (And.intro hown (And.intro hxl (And.intro hll hLL)))))
      clear hA hkeep hown hxl hll hLL hcl hfz hle hmx
      refine hQ.out _ _ ⟨q0, q1⟩ (fun hHeld => ?_)
      clear hQ
      try simp only [Act.put, List.setIfInBounds_toArray, List.set_cons_zero, List.set_cons_succ]
      refine takeL (i := 9) (v := ?_) rfl (by kernel_rfl) (by kernel_rfl) (by kernel_rfl) (fun _ _ _ h => h) (Or.inl ⟨by rfl, ?_⟩) (by assumption) ?_
      rotate_left
      focus (intro w hSw; go_simp; try with_reducible rfl)
      try simp only [Act.put, List.setIfInBounds_toArray, List.set_cons_zero, List.set_cons_succ]
      refine takeL (i := 11) (v := ?_) rfl (by kernel_rfl) (by kernel_rfl) (by kernel_rfl) (fun _ _ _ h => h) (Or.inl ⟨by rfl, ?_⟩) (by assumption) ?_
      rotate_left
      focus (intro w hSw; go_simp; try with_reducible rfl)
      try simp only [Act.put, List.setIfInBounds_toArray, List.set_cons_zero, List.set_cons_succ]
      refine callL2 (i := 10) (j := 12) (by kernel_rfl) rfl rfl (fun K hQ => ?_) (fun K hQ => ?_)
      · go_simp
        have q0' := q0
        have q1' := q1
        refine hQ.out _ _ ⟨by go_simp, by go_simp⟩ (fun hHeld => ?_)
        clear hQ
        try simp only [Act.put, List.setIfInBounds_toArray, List.set_cons_zero, List.set_cons_succ]
        refine callL (i := 12) (by kernel_rfl) rfl (fun K hQ => ?_)
        go_simp
        refine hQ.out _ _ ⟨by go_simp, by go_simp⟩ (fun hHeld => ?_)
        clear hQ
        try simp only [Act.put, List.setIfInBounds_toArray, List.set_cons_zero, List.set_cons_succ]
        refine wpAnyH_done (by kernel_rfl) ?_ _
        go_wp2_with fail
        go_end0
        exact fin.out _ (.inl rfl)
      · go_simp
        refine hQ.out _ _ ⟨by go_simp, by go_simp⟩ (fun hHeld => ?_)
        clear hQ
        try simp only [Act.put, List.setIfInBounds_toArray, List.set_cons_zero, List.set_cons_succ]
        refine callL (i := 10) (by kernel_rfl) rfl (fun K hQ => ?_)
        go_simp
        have q0' := q0
        have q1' := q1
        refine hQ.out _ _ ⟨by go_simp, by go_simp⟩ (fun hHeld => ?_)
        clear hQ
        try simp only [Act.put, List.setIfInBounds_toArray, List.set_cons_zero, List.set_cons_succ]
        refine wpAnyH_done (by kernel_rfl) ?_ _
        go_wp2_with fail
        go_end0
        exact fin.out _ (.inr rfl)
  · go_simp
    generalize hx : World.alloc x0 _ = x15
    have HZ : Hid (SrcAt x15 6 (some ⟨x0.heap.size, 0, none⟩) 1 zero6) := by subst hx; exact src_new rfl
    have hzP : Hid (x0.heap.size ≠ P) := by have := HS.out.sz; have := HS.out.lt; show x0.heap.size ≠ P; omega
    have HS : Hid (KSt base w x15 P B bp bw wi k (.slice A0 n cap0) l) := by subst hx; exact HS.out.alloc _
    have HP : Hid (PBox x15 P L c) := by subst hx; exact HP.out.alloc _
    clear hx q0 q1 b5 bf b9
    obtain ⟨q0, q1⟩ := HS.out.cells
    obtain ⟨b5, bf, b9⟩ := HS.out.box
    refine hQ.out _ _ ⟨q0, q1⟩ (fun hHeld => ?_)
    clear hQ
    try simp only [Act.put, List.setIfInBounds_toArray, List.set_cons_zero, List.set_cons_succ]
    refine callL2 (i := 1) (j := 5) (by kernel_rfl) rfl rfl (fun K hQ => ?_) (fun K hQ => ?_)
    · go_simp
      refine hQ.out _ _ ⟨q0, q1⟩ (fun hHeld => ?_)
      clear hQ
      try simp only [Act.put, List.setIfInBounds_toArray, List.set_cons_zero, List.set_cons_succ]
      refine takeL (i := 6) (v := ?_) rfl (by kernel_rfl) (by kernel_rfl) (by kernel_rfl) (fun _ _ _ h => h) (Or.inl ⟨by rfl, ?_⟩) (by assumption) ?_
      rotate_left
      focus (intro w hSw; go_simp; try with_reducible rfl)
      try simp only [Act.put, List.setIfInBounds_toArray, List.set_cons_zero, List.set_cons_succ]
      refine callL (i := 5) (by kernel_rfl) rfl (fun K hQ => ?_)
      go_simp
      go_at_call 26
      with_reducible refine (HC.out x15 HP.out).mono ?_
      rintro e x16 ⟨a, cap1, rfl, hf, hP2, hg⟩
      have HF := hid (HS.out.made hf)
      have HZ := hid (SrcAt.grown HZ.out hg (.inr fun ad had => by cases had; intro e; exact hzP.out (Option.some.inj e)))
      have HS := hid (HS.out.grown hg fun k e => (Option.some.inj e).symm)
      have HP := hid hP2
      clear hf hP2 hg q0 q1 b5 bf b9
      obtain ⟨q0, q1⟩ := HS.out.cells
      obtain ⟨b5, bf, b9⟩ := HS.out.box
      refine hQ.out _ _ ⟨q0, q1⟩ (fun hHeld => ?_)
      clear hQ
      try simp only [Act.put, List.setIfInBounds_toArray, List.set_cons_zero, List.set_cons_succ]
      refine callL (i := 8) (by kernel_rfl) rfl (fun K hQ => ?_)
      obtain ⟨LL, rfl, hown, hxl, hLL⟩ := HS.out.kd.open_
      rw [Hn.out] at hown hxl
      have hll := Hn.out
      rw [List.length_map] at hll
      refine step_zero (base := base) (.tmp 6) (.tmp 12) (.slice A0 n cap0) n (LL.flatMap fxC) ?_ ?_ ?_ hown ⟨_, _, rfl, HZ.out⟩ (by omega) HS.out.sz ?_
      · rfl
      · rfl
      · rfl
      intro v2 W2 hA
      obtain ⟨g, cap2, rfl, hg1, hg2, hle, hmx, hcl, hfz⟩ := hA.form hxl
      have fin := hid (fun W3 hW3 => fin.out (KSt.fin (W2 := W3) HS.out hll hLL HF.out HP.out hA hg1 hW3))
      have hkeep : ∀ b, b < base → W2.heap[b]? = x16.heap[b]? := fun b hb => hA.gr.block b (by have := HS.out.sz; omega) fun e => by have := (HS.out.kd.own b e.symm).1; omega
      have hl2 := HS.out.lt
      have hbp := HS.out.bp.2
      have hbw := HS.out.bw.2
      have q0 : W2.cell? ⟨bp, 0, none⟩ = some (.pointer (some ⟨P, 0, none⟩)) := (World.cell?_of_block (w := x16) (a := ⟨bp, 0, none⟩) (hkeep bp hbp.1)).trans q0
      have q1 : W2.cell? ⟨bw, 0, none⟩ = some (.int .i64 wi) := (World.cell?_of_block (w := x16) (a := ⟨bw, 0, none⟩) (hkeep bw hbw.1)).trans q1
      have b5 : W2.cell? ⟨B, 5, none⟩ = some (.slice A0 n cap0) := (World.cell?_of_block (w := x16) (a := ⟨B, 5, none⟩) (hkeep B hl2.2)).trans b5
      have bf : W2.frozen? ⟨B, 5, none⟩ = false := (World.frozen?_of_block (w := x16) (a := ⟨B, 5, none⟩) (hkeep B hl2.2)).trans (bf 5)
      obtain ⟨u0, e0⟩ := hcl 0 (by omega)
      obtain ⟨u1, e1⟩ := hcl 1 (by omega)
      obtain ⟨u2, e2⟩ := hcl 2 (by omega)
      obtain ⟨u3, e3⟩ := hcl 3 (by omega)
      obtain ⟨u4, e4⟩ := hcl 4 (by omega)
      obtain ⟨u5, e5⟩ := hcl 5 (by omega)
      rw [Nat.add_zero] at e0
      have z0 := hfz (n * 6)
      have z1 := hfz (n * 6 + 1)
      have z2 := hfz (n * 6 + 2)
      have z3 := hfz (n * 6 + 3)
      have z4 := hfz (n * 6 + 4)
      have z5 := hfz (n * 6 + 5)
      have n0 : (0 : Int) ≤ n := by omega
      have n1 : (n : Int) < (n : Int) + 1 := by omega
      have n2 : n < n + 1 := by omega
      have d1 : g ≠ B := by omega
      have d2 : B ≠ g := by omega
      have d3 : bp ≠ g := by omega
      have d4 : bw ≠ g := by omega
      have d5 : bp ≠ B := hbp.2.2
      have d6 : bw ≠ B := hbw.2.2
      have HX := hid (And.intro hA (And.intro hkeep (And.intro hown (And.intro hxl (And.intro hll hLL)))))
      clear hA hkeep hown hxl hll hLL hcl hfz hle hmx
      refine hQ.out _ _ ⟨q0, q1⟩ (fun hHeld => ?_)
      clear hQ
      try simp only [Act.put, List.setIfInBounds_toArray, List.set_cons_zero, List.set_cons_succ]
      refine takeL (i := 9) (v := ?_) rfl (by kernel_rfl) (by kernel_rfl) (by kernel_rfl) (fun _ _ _ h => h) (Or.inl ⟨by rfl, ?_⟩) (by assumption) ?_
      rotate_left
      focus (intro w hSw; go_simp; try with_reducible rfl)
      try simp only [Act.put, List.setIfInBounds_toArray, List.set_cons_zero, List.set_cons_succ]
      refine takeL (i := 11) (v := ?_) rfl (by kernel_rfl) (by kernel_rfl) (by kernel_rfl) (fun _ _ _ h => h) (Or.inl ⟨by rfl, ?_⟩) (by assumption) ?_
      rotate_left
      focus (intro w hSw; go_simp; try with_reducible rfl)
      try simp only [Act.put, List.setIfInBounds_toArray, List.set_cons_zero, List.set_cons_succ]
      refine callL2 (i := 10) (j := 12) (by kernel_rfl) rfl rfl (fun K hQ => ?_) (fun K hQ => ?_)
      · go_simp
        have q0' := q0
        have q1' := q1
        refine hQ.out _ _ ⟨by go_simp, by go_simp⟩ (fun hHeld => ?_)
        clear hQ
        try simp only [Act.put, List.setIfInBounds_toArray, List.set_cons_zero, List.set_cons_succ]
        refine callL (i := 12) (by kernel_rfl) rfl (fun K hQ => ?_)
        go_simp
        refine hQ.out _ _ ⟨by go_simp, by go_simp⟩ (fun hHeld => ?_)
        clear hQ
        try simp only [Act.put, List.setIfInBounds_toArray, List.set_cons_zero, List.set_cons_succ]
        refine wpAnyH_done (by kernel_rfl) ?_ _
        go_wp2_with fail
        go_end0
        exact fin.out _ (.inl rfl)
      · go_simp
        refine hQ.out _ _ ⟨by go_simp, by go_simp⟩ (fun hHeld => ?_)
        clear hQ
        try simp only [Act.put, List.setIfInBounds_toArray, List.set_cons_zero, List.set_cons_succ]
        refine callL (i := 10) (by kernel_rfl) rfl (fun K hQ => ?_)
        go_simp
        have q0' := q0
        have q1' := q1
        refine hQ.out _ _ ⟨by go_simp, by go_simp⟩ (fun hHeld => ?_)
        clear hQ
        try simp only [Act.put, List.setIfInBounds_toArray, List.set_cons_zero, List.set_cons_succ]
        refine wpAnyH_done (by kernel_rfl) ?_ _
        go_wp2_with fail
        go_end0
        exact fin.out _ (.inr rfl)
    · go_simp
      go_at_call 26
      with_reducible refine (HC.out x15 HP.out).mono ?_
      rintro e x17 ⟨a, cap1, rfl, hf, hP2, hg⟩
      have HF := hid (HS.out.made hf)
      have HZ := hid (SrcAt.grown HZ.out hg (.inr fun ad had => by cases had; intro e; exact hzP.out (Option.some.inj e)))
      have HS := hid (HS.out.grown hg fun k e => (Option.some.inj e).symm)
      have HP := hid hP2
      clear hf hP2 hg q0 q1 b5 bf b9
      obtain ⟨q0, q1⟩ := HS.out.cells
      obtain ⟨b5, bf, b9⟩ := HS.out.box
      refine hQ.out _ _ ⟨q0, q1⟩ (fun hHeld => ?_)
      clear hQ
      try simp only [Act.put, List.setIfInBounds_toArray, List.set_cons_zero, List.set_cons_succ]
      refine callL (i := 1) (by kernel_rfl) rfl (fun K hQ => ?_)
      go_simp
      refine hQ.out _ _ ⟨q0, q1⟩ (fun hHeld => ?_)
      clear hQ
      try simp only [Act.put, List.setIfInBounds_toArray, List.set_cons_zero, List.set_cons_succ]
      refine takeL (i := 6) (v := ?_) rfl (by kernel_rfl) (by kernel_rfl) (by kernel_rfl) (fun _ _ _ h => h) (Or.inl ⟨by rfl, ?_⟩) (by assumption) ?_
      rotate_left
      focus (intro w hSw; go_simp; try with_reducible rfl)
      try simp only [Act.put, List.setIfInBounds_toArray, List.set_cons_zero, List.set_cons_succ]
      refine callL (i := 8) (by kernel_rfl) rfl (fun K hQ => ?_)
      obtain ⟨LL, rfl, hown, hxl, hLL⟩ := HS.out.kd.open_
      rw [Hn.out] at hown hxl
      have hll := Hn.out
      rw [List.length_map] at hll
      refine step_zero (base := base) (.tmp 6) (.tmp 12) (.slice A0 n cap0) n (LL.flatMap fxC) ?_ ?_ ?_ hown ⟨_, _, rfl, HZ.out⟩ (by omega) HS.out.sz ?_
      · rfl
      · rfl
      · rfl
      intro v2 W2 hA
      obtain ⟨g, cap2, rfl, hg1, hg2, hle, hmx, hcl, hfz⟩ := hA.form hxl
      have fin := hid (fun W3 hW3 => fin.out (KSt.fin (W2 := W3) HS.out hll hLL HF.out HP.out hA hg1 hW3))
      have hkeep : ∀ b, b < base → W2.heap[b]? = x17.heap[b]? := fun b hb => hA.gr.block b (by have := HS.out.sz; omega) fun e => by have := (HS.out.kd.own b e.symm).1; omega
      have hl2 := HS.out.lt
      have hbp := HS.out.bp.2
      have hbw := HS.out.bw.2
      have q0 : W2.cell? ⟨bp, 0, none⟩ = some (.pointer (some ⟨P, 0, none⟩)) := (World.cell?_of_block (w := x17) (a := ⟨bp, 0, none⟩) (hkeep bp hbp.1)).trans q0
      have q1 : W2.cell? ⟨bw, 0, none⟩ = some (.int .i64 wi) := (World.cell?_of_block (w := x17) (a := ⟨bw, 0, none⟩) (hkeep bw hbw.1)).trans q1
      have b5 : W2.cell? ⟨B, 5, none⟩ = some (.slice A0 n cap0) := (World.cell?_of_block (w := x17) (a := ⟨B, 5, none⟩) (hkeep B hl2.2)).trans b5
      have bf : W2.frozen? ⟨B, 5, none⟩ = false := (World.frozen?_of_block (w := x17) (a := ⟨B, 5, none⟩) (hkeep B hl2.2)).trans (bf 5)
      obtain ⟨u0, e0⟩ := hcl 0 (by omega)
      obtain ⟨u1, e1⟩ := hcl 1 (by omega)
      obtain ⟨u2, e2⟩ := hcl 2 (by omega)
      obtain ⟨u3, e3⟩ := hcl 3 (by omega)
      obtain ⟨u4, e4⟩ := hcl 4 (by omega)
      obtain ⟨u5, e5⟩ := hcl 5 (by omega)
      rw [Nat.add_zero] at e0
      have z0 := hfz (n * 6)
      have z1 := hfz (n * 6 + 1)
      have z2 := hfz (n * 6 + 2)
      have z3 := hfz (n * 6 + 3)
      have z4 := hfz (n * 6 + 4)
      have z5 := hfz (n * 6 + 5)
      have n0 : (0 : Int) ≤ n := by omega
      have n1 : (n : Int) < (n : Int) + 1 := by omega
      have n2 : n < n + 1 := by omega
      have d1 : g ≠ B := by omega
      have d2 : B ≠ g := by omega
      have d3 : bp ≠ g := by omega
      have d4 : bw ≠ g := by omega
      have d5 : bp ≠ B := hbp.2.2
      have d6 : bw ≠ B := hbw.2.2
      have HX := hid (And.intro hA (And.intro hkeep (And.intro hown (And.intro hxl (And.intro hll hLL)))))
      clear hA hkeep hown hxl hll hLL hcl hfz hle hmx
      refine hQ.out _ _ ⟨q0, q1⟩ (fun hHeld => ?_)
      clear hQ
      try simp only [Act.put, List.setIfInBounds_toArray, List.set_cons_zero, List.set_cons_succ]
      refine takeL (i := 9) (v := ?_) rfl (by kernel_rfl) (by kernel_rfl) (by kernel_rfl) (fun _ _ _ h => h) (Or.inl ⟨by rfl, ?_⟩) (by assumption) ?_
      rotate_left
      focus (intro w hSw; go_simp; try with_reducible rfl)
      try simp only [Act.put, List.setIfInBounds_toArray, List.set_cons_zero, List.set_cons_succ]
      refine takeL (i := 11) (v := ?_) rfl (by kernel_rfl) (by kernel_rfl) (by kernel_rfl) (fun _ _ _ h => h) (Or.inl ⟨by rfl, ?_⟩) (by assumption) ?_
      rotate_left
      focus (intro w hSw; go_simp; try with_reducible rfl)
      try simp only [Act.put, List.setIfInBounds_toArray, List.set_cons_zero, List.set_cons_succ]
      refine callL2 (i := 10) (j := 12) (by kernel_rfl) rfl rfl (fun K hQ => ?_) (fun K hQ => ?_)
      · go_simp
        have q0' := q0
        have q1' := q1
        refine hQ.out _ _ ⟨by go_simp, by go_simp⟩ (fun hHeld => ?_)
        clear hQ
        try simp only [Act.put, List.setIfInBounds_toArray, List.set_cons_zero, List.set_cons_succ]
        refine callL (i := 12) (by kernel_rfl) rfl (fun K hQ => ?_)
        go_simp
        refine hQ.out _ _ ⟨by go_simp, by go_simp⟩ (fun hHeld => ?_)
        clear hQ
        try simp only [Act.put, List.setIfInBounds_toArray, List.set_cons_zero, List.set_cons_succ]
        refine wpAnyH_done (by kernel_rfl) ?_ _
        go_wp2_with fail
        go_end0
        exact fin.out _ (.inl rfl)
      · go_simp
        refine hQ.out _ _ ⟨by go_simp, by go_simp⟩ (fun hHeld => ?_)
        clear hQ
        try simp only [Act.put, List.setIfInBounds_toArray, List.set_cons_zero, List.set_cons_succ]
        refine callL (i := 10) (by kernel_rfl) rfl (fun K hQ => ?_)
        go_simp
        have q0' := q0
        have q1' := q1
        refine hQ.out _ _ ⟨by go_simp, by go_simp⟩ (fun hHeld => ?_)
        clear hQ
        try simp only [Act.put, List.setIfInBounds_toArray, List.set_cons_zero, List.set_cons_succ]
        refine wpAnyH_done (by kernel_rfl) ?_ _
        go_wp2_with fail
        go_end0
        exact fin.out _ (.inr rfl)
end Go.Proofs.YtogopcejapklgaaGreatDoor
