/- The document's digits: how many there are at most. -/
import Derived.Test.YtogopcejapklgaaGreatDoorBunK
import Derived.Test.YtogopcejapklgaaGreatDoorBunS
import Derived.Deep.CutRange
namespace Go.Proofs.YtogopcejapklgaaGreatDoor
open Go Go.RowKit

theorem conv_one (W : World) (o : Int) : (convert 22 9 (.slice (some ⟨W.heap.size, 0, none⟩) 1 1)).run Tryz.prog (W.alloc (.cells #[.int .u8 o] 5)) = .ok (.string ⟨#[UInt8.ofNat o.toNat]⟩) (W.alloc (.cells #[.int .u8 o] 5)) := by
  have h := run_convert_bytes_arg (P := Tryz.prog) (W.alloc (.cells #[.int .u8 o] 5)) 22 5 Tryz.underlying22 Tryz.underlying5 W.heap.size 0 1 1 [o] rfl (fun i hi => by
    have : i = 0 := by omega
    subst this
    simp) 9 Tryz.underlying9
  rw [h]
  rfl
/-- Digits answers a text of so many bytes at most. -/
def DgP (k : Nat) (w : World) (e : Ending) (w' : World) : Prop := ∃ t : ByteArray, e = .returned (.string t) ∧ t.size ≤ k ∧ Below w.heap.size w w'
set_option maxRecDepth 100000 in
set_option maxHeartbeats 4000000 in
theorem rdigits_step (k : Nat) (ih : 1 ≤ k → ∀ n : Int, 0 ≤ n → n < 10 ^ k → ∀ w, Calls Tryz.prog 33 #[.int .i64 n] w (DgP k w)) (hk : 1 ≤ k → k ≤ 100) (n : Int) (h0 : 0 ≤ n) (hmx : n ≤ 10000000) (h1 : n < 10 ^ (k + 1)) (w : World) :
    Calls Tryz.prog 33 #[.int .i64 n] w (DgP (k + 1) w) := by
  obtain ⟨b, hb⟩ : ∃ b, n % 10 = b := ⟨_, rfl⟩
  have hb0 : 0 ≤ b ∧ b < 10 := by omega
  have w1 : IntKind.i64.wrap (48 + b) = 48 + b := IntWalk.i64_in _ (by omega)
  have w2 : IntKind.u8.wrap (48 + b) = 48 + b := by simp [IntKind.wrap, IntKind.signed, IntKind.bits]; omega
  obtain ⟨S2, hS2⟩ : ∃ S2 : ByteArray, S2 = ⟨#[UInt8.ofNat (48 + b).toNat]⟩ := ⟨_, rfl⟩
  have hs2 : S2.size = 1 := by rw [hS2]; rfl
  have hc : ∀ W : World, (convert 22 9 (.slice (some ⟨W.heap.size, 0, none⟩) 1 1)).run Tryz.prog (W.alloc (.cells #[.int .u8 (48 + b)] 5)) = .ok (.string S2) (W.alloc (.cells #[.int .u8 (48 + b)] 5)) := fun W => by rw [hS2]; exact conv_one W (48 + b)
  by_cases h10 : n < 10
  · have d10 : decide (n < 10) = true := decide_eq_true h10
    have hfin : Hid (∀ W, Below w.heap.size w W → DgP (k + 1) w (.returned (.string S2)) W) := hid fun W h => ⟨S2, rfl, by omega, h⟩
    clear hS2 h1 h10 ih hk
    go_enter Tryz.func33, Tryz.ntmps33
    go_wp2_with fail
    go_ret
    exact hfin.out _ ((Below.refl _ _).alloc (Nat.le_refl _) _)
  · have d10 : decide (n < 10) = false := decide_eq_false h10
    have hk1 : 1 ≤ k := by
      cases k with
      | zero => simp at h1; omega
      | succ k => omega
    have hq : n / 10 < 10 ^ k := by
      rw [Int.pow_succ] at h1
      omega
    have hq0 : 0 ≤ n / 10 := by omega
    obtain ⟨a, ha⟩ : ∃ a, n / 10 = a := ⟨_, rfl⟩
    have hcall := hid (fun W => ih hk1 (n / 10) hq0 hq W)
    rw [ha] at hcall
    have hk100 := hk hk1
    have hq10 : IntKind.i64.wrap (n / 10) = n / 10 := IntWalk.i64_in _ (by omega)
    clear hS2 h1 h10 ih hk hq hq0
    go_enter Tryz.func33, Tryz.ntmps33
    go_upto_region 4 with fail
    clear hc w1 w2
    rw [hb]
    go_wp2_with (first
      | (go_at_call 33
         refine (hcall.out _).mono ?_
         rintro e w5 ⟨t, rfl, ht, hb2⟩
         have ht2 : t.size ≤ 1000 := by omega
         have HB := hid (((Below.refl w.heap.size w).alloc (Nat.le_refl _) (.cells #[.int .u8 (48 + b)] 5)).trans (hb2.mono (by simp)))
         clear hb2)
      | fail)
    go_ret
    exact ⟨t ++ S2, rfl, by rw [ByteArray.size_append]; omega, HB.out⟩
theorem rdigits_le : ∀ (k : Nat), 1 ≤ k → k ≤ 7 → ∀ n : Int, 0 ≤ n → n < 10 ^ k → ∀ w, Calls Tryz.prog 33 #[.int .i64 n] w (DgP k w)
  | 0, h, _, _, _, _, _ => absurd h (by omega)
  | k + 1, _, h, n, h0, h1, w => by
    have hk : 1 ≤ k → k ≤ 100 := fun _ => by omega
    refine rdigits_step k (fun hk1 n h0 h1 w => rdigits_le k hk1 (by omega) n h0 h1 w) hk n h0 ?_ h1 w
    have : (10 : Int) ^ (k + 1) ≤ 10 ^ 7 := by exact_mod_cast Nat.pow_le_pow_right (show 0 < 10 by omega) h
    have h7 : (10 : Int) ^ 7 = 10000000 := by decide
    omega
end Go.Proofs.YtogopcejapklgaaGreatDoor
namespace Go.Proofs.YtogopcejapklgaaGreatDoor
open Go Go.RowKit

theorem pbox_cells {x : World} {B : Nat} {a b c d : Int} (h : x.heap[B]? = some (.cells #[.int .i64 a, .int .i64 b, .int .i64 c, .int .i64 d] 27 (0, 0))) : x.cell? ⟨B, 0, none⟩ = some (.int .i64 a) ∧ x.cell? ⟨B, 1, none⟩ = some (.int .i64 b) ∧ x.cell? ⟨B, 2, none⟩ = some (.int .i64 c) ∧ x.cell? ⟨B, 3, none⟩ = some (.int .i64 d) :=
  ⟨by rw [cell_of_heap h]; rfl, by rw [cell_of_heap h]; rfl, by rw [cell_of_heap h]; rfl, by rw [cell_of_heap h]; rfl⟩
theorem zeros_one : ∀ u ∈ ([.int .i64 0, .int .i64 0, .int .i64 0] : List Value), u.oneCell' = true := by
  intro u hu
  simp at hu
  subst hu
  rfl
/-- append of numbers, as a guarded step of a region. -/
theorem step_i6g {ops : Array Oper} {o : Oper} {a : Act} {w : World} {base : Nat} {K : Act → World → Prop} {Q : Exit → Act → World → Prop} {E : Prop} (s x : Operand) (v : Value) (n : Nat) (xs : List Value) (m : Nat) (news : List Value)
    (hw : Region.wanted o (yielded ops a.tmps) = true) (ho : o.op = .call { callee := .builtin .append, args := #[s, x], argTypes := #[66, 66] })
    (hsv : a.eval s = v) (hown : w.ownsRow base 3 1 v n xs) (hsrc : ∃ A c, a.eval x = .slice A m c ∧ SrcAt w 1 A m news) (h1 : ∀ u ∈ news, u.oneCell' = true) (hb : n + m ≤ 100000000) (hbase : base ≤ w.heap.size)
    (h : ∀ v' w', w'.ownsRow base 3 1 v' (n + m) (xs ++ news) → w.grownBy w' v.ownBlock → (v'.ownBlock = v.ownBlock ∨ v'.ownBlock = some w.heap.size) → K (a.put o.dst v') w') :
    if Region.wanted o (yielded ops a.tmps) = true then Oper.wp Tryz.prog o a w K Q else E := by
  obtain ⟨i0, hi, hz0, hz1, hz2⟩ := info_parts i6_info
  rw [if_pos hw]
  exact wp_app s x ho Tryz.underlying66 hi hz0 hz1 hz2 rfl (by decide) v n xs hsv hown m news hsrc h1 (by simp only [maxLen]; omega) (by omega) hbase h
theorem ofP_zeros {p : Pr} (h : okP p) : ofP p.k (numsP p ++ [0, 0, 0]) = p := by
  obtain ⟨h1, -, h3⟩ := h
  obtain ⟨k, t, a, n⟩ := p
  rw [h3]
  rcases h1 with h | h | h | h | h | h
  all_goals
    simp only at h
    subst h
    rfl

set_option maxRecDepth 100000 in
set_option maxHeartbeats 8000000 in
theorem rprop_any (p : Pr) (hp : okP p) (w : World) : Calls Tryz.prog 49 #[.agg #[.int .i64 p.k, .int .i64 p.t, .int .i64 p.a, .int .i64 p.n]] w fun e w' => e = .returned (.bool true) ∧ Below w.heap.size w w' := by
  have hk := hp.1
  have hk12 : 1 ≤ p.k ∧ p.k ≤ 12 := by unfold isShp at hk; omega
  have hne : shpN p.k ≠ [] := by rcases hk with h | h | h | h | h | h <;> rw [h] <;> decide
  have hln : (numsP p).length ≤ 3 := by simp only [numsP, List.length_map]; exact offs_len _
  have hlo : (numsP p).length = (offs p.k).length := by simp [numsP]
  have hof := ofP_zeros hp
  have HW := hid (rpropword_any p.k hk12)
  have HN := hid (fun W => rnumbers_own p hk W)
  have HO : Hid (∀ (a : Option Addr) (cap : Nat) (W : World), IntIn W (In_ W) a (numsP p ++ [0, 0, 0]).length cap (numsP p ++ [0, 0, 0]) → Calls Tryz.prog 60 #[.int .i64 p.k, .slice a (numsP p ++ [0, 0, 0]).length cap] W fun e w' => e = .returned (.agg #[.int .i64 p.k, .int .i64 p.t, .int .i64 p.a, .int .i64 p.n]) ∧ Below W.heap.size W w') := hid fun a cap W h => by
    have h2 := rof_any p.k hk (numsP p ++ [0, 0, 0]) a cap W h (by rw [List.length_append]; omega)
    rw [hof] at h2
    exact h2
  have Hrg := hid hp.2.1
  have HN2 : Hid (∀ W, Calls Tryz.prog 32 #[.agg #[.int .i64 p.k, .int .i64 p.t, .int .i64 p.a, .int .i64 p.n]] W fun e w' => ∃ v, e = .returned v ∧ NumIs w' W.heap.size v (numsP p) ∧ Below W.heap.size W w') := HN
  clear HN
  have HN := HN2
  clear HN2
  generalize numsP p = ls at *
  obtain ⟨m, hm⟩ : ∃ m, ls.length = m := ⟨_, rfl⟩
  have Hm := hid hm
  have HO : Hid (∀ (a : Option Addr) (cap : Nat) (W : World), IntIn W (In_ W) a (m + 3) cap (ls ++ [0, 0, 0]) → Calls Tryz.prog 60 #[.int .i64 p.k, .slice a (m + 3) cap] W fun e w' => e = .returned (.agg #[.int .i64 p.k, .int .i64 p.t, .int .i64 p.a, .int .i64 p.n]) ∧ Below W.heap.size W w') := hid fun a cap W h => by
    have h2 := HO.out a cap W
    have hl3 : (ls ++ [0, 0, 0]).length = m + 3 := by rw [List.length_append, hm]; rfl
    rw [hl3] at h2
    exact h2 h
  rw [hm] at hln hlo
  obtain ⟨X, hX⟩ : ∃ X, shpN p.k = X := ⟨_, rfl⟩
  rw [hX] at HW hne
  have hXe : (X == []) = false := by simpa using hne
  clear hX hk hk12 hof hlo hp hne hm
  go_enter Tryz.func49, Tryz.ntmps49
  go_upto_region 1 with fail
  generalize hW : World.alloc w _ = W0
  have HB : Hid (W0.heap[w.heap.size]? = some (.cells #[.int .i64 p.k, .int .i64 p.t, .int .i64 p.a, .int .i64 p.n] 27 (0, 0))) := by subst hW; exact hid (alloc_at rfl)
  have HX : Hid (Below w.heap.size w W0) := by subst hW; exact hid ((Below.refl _ _).alloc (Nat.le_refl _) _)
  have hwn : w.heap.size < W0.heap.size := (Array.getElem?_eq_some_iff.1 HB.out).1
  clear hW
  go_cut [19] from 5 to 18 (fun v wx => v = .bool false ∧ wx.heap[w.heap.size]? = some (.cells #[.int .i64 p.k, .int .i64 p.t, .int .i64 p.a, .int .i64 p.n] 27 (0, 0)) ∧ Below w.heap.size w wx)
  case first =>
    have HB : Hid (W0.drew.heap[w.heap.size]? = some (.cells #[.int .i64 p.k, .int .i64 p.t, .int .i64 p.a, .int .i64 p.n] 27 (0, 0))) := HB
    have HX := hid HX.out.drew
    have hwn : w.heap.size < W0.drew.heap.size := hwn
    obtain ⟨q0, q1, q2, q3⟩ := pbox_cells HB.out
    refine wp_region_held_drew (S := fun W => W.cell? ⟨w.heap.size, 0, none⟩ = some (.int .i64 p.k) ∧ W.cell? ⟨w.heap.size, 1, none⟩ = some (.int .i64 p.t) ∧ W.cell? ⟨w.heap.size, 2, none⟩ = some (.int .i64 p.a) ∧ W.cell? ⟨w.heap.size, 3, none⟩ = some (.int .i64 p.n)) (by kernel_rfl) ⟨q0, q1, q2, q3⟩ (fun hHeld => ?_)
    generalize World.drew W0 = X0 at HB HX hwn q0 q1 q2 q3 hHeld ⊢
    refine takeL (i := 0) (v := ?_) rfl (by kernel_rfl) (by kernel_rfl) (by kernel_rfl) (fun _ _ _ h => h) (Or.inl ⟨by rfl, ?_⟩) (by assumption) ?_
    rotate_left
    focus (intro w hSw; go_simp; try with_reducible rfl)
    try simp only [Act.put, List.setIfInBounds_toArray, List.set_cons_zero, List.set_cons_succ]
    refine takeL (i := 1) (v := ?_) rfl (by kernel_rfl) (by kernel_rfl) (by kernel_rfl) (fun _ _ _ h => h) (Or.inl ⟨by rfl, ?_⟩) (by assumption) ?_
    rotate_left
    focus (intro w hSw; go_simp; try with_reducible rfl)
    try simp only [Act.put, List.setIfInBounds_toArray, List.set_cons_zero, List.set_cons_succ]
    refine callL (i := 2) (by kernel_rfl) rfl (fun K hQ => ?_)
    go_simp
    go_at_call 31
    with_reducible refine (HW.out X0).mono ?_
    rintro e X1 ⟨rfl, hb⟩
    have HB := hid ((hb.block _ (Array.getElem?_eq_some_iff.1 HB.out).1).trans HB.out)
    have HX := hid (HX.out.trans (hb.mono HX.out.size))
    obtain ⟨q0, q1, q2, q3⟩ := pbox_cells HB.out
    clear hb
    refine hQ.out _ _ ⟨q0, q1, q2, q3⟩ (fun hHeld => ?_)
    clear hQ
    try simp only [Act.put, List.setIfInBounds_toArray, List.set_cons_zero, List.set_cons_succ]
    refine takeL (i := 3) (v := ?_) rfl (by kernel_rfl) (by kernel_rfl) (by kernel_rfl) (fun _ _ _ h => h) (Or.inl ⟨by rfl, ?_⟩) (by assumption) ?_
    rotate_left
    focus (intro w hSw; go_simp; try with_reducible rfl)
    try simp only [Act.put, List.setIfInBounds_toArray, List.set_cons_zero, List.set_cons_succ]
    refine takeL (i := 4) (v := ?_) rfl (by kernel_rfl) (by kernel_rfl) (by kernel_rfl) (fun _ _ _ h => h) (Or.inl ⟨by rfl, ?_⟩) (by assumption) ?_
    rotate_left
    focus (intro w hSw; go_simp; try with_reducible rfl)
    try simp only [Act.put, List.setIfInBounds_toArray, List.set_cons_zero, List.set_cons_succ]
    refine takeL (i := 5) (v := ?_) rfl (by kernel_rfl) (by kernel_rfl) (by kernel_rfl) (fun _ _ _ h => h) (Or.inl ⟨by rfl, ?_⟩) (by assumption) ?_
    rotate_left
    focus (intro w hSw; go_simp; try with_reducible rfl)
    try simp only [Act.put, List.setIfInBounds_toArray, List.set_cons_zero, List.set_cons_succ]
    refine takeL (i := 6) (v := ?_) rfl (by kernel_rfl) (by kernel_rfl) (by kernel_rfl) (fun _ _ _ h => h) (Or.inl ⟨by rfl, ?_⟩) (by assumption) ?_
    rotate_left
    focus (intro w hSw; go_simp; try with_reducible rfl)
    try simp only [Act.put, List.setIfInBounds_toArray, List.set_cons_zero, List.set_cons_succ]
    refine takeL (i := 7) (v := ?_) rfl (by kernel_rfl) (by kernel_rfl) (by kernel_rfl) (fun _ _ _ h => h) (Or.inl ⟨by rfl, ?_⟩) (by assumption) ?_
    rotate_left
    focus (intro w hSw; go_simp; try with_reducible rfl)
    try simp only [Act.put, List.setIfInBounds_toArray, List.set_cons_zero, List.set_cons_succ]
    refine takeL (i := 8) (v := ?_) rfl (by kernel_rfl) (by kernel_rfl) (by kernel_rfl) (fun _ _ _ h => h) (Or.inl ⟨by rfl, ?_⟩) (by assumption) ?_
    rotate_left
    focus (intro w hSw; go_simp; try with_reducible rfl)
    try simp only [Act.put, List.setIfInBounds_toArray, List.set_cons_zero, List.set_cons_succ]
    refine callL2 (i := 9) (j := 10) (by kernel_rfl) rfl rfl (fun K hQ => ?_) (fun K hQ => ?_)
    · go_simp
      go_at_call 32
      have hwx : w.heap.size < X1.heap.size := (Array.getElem?_eq_some_iff.1 HB.out).1
      with_reducible refine (HN.out X1).mono ?_
      rintro e X2 ⟨v, rfl, hN, hb⟩
      have HB := hid ((hb.block _ (Array.getElem?_eq_some_iff.1 HB.out).1).trans HB.out)
      have HX := hid (HX.out.trans (hb.mono HX.out.size))
      have hxz : X1.heap.size ≤ X2.heap.size := hb.size
      have hwx : w.heap.size < X1.heap.size := by have := (Array.getElem?_eq_some_iff.1 HB.out).1; omega
      have hL := hN.2
      rw [Hm.out] at hL
      have HL := hid hL
      obtain ⟨q0, q1, q2, q3⟩ := pbox_cells HB.out
      clear hb hN hL
      refine hQ.out _ _ ⟨q0, q1, q2, q3⟩ (fun hHeld => ?_)
      clear hQ
      try simp only [Act.put, List.setIfInBounds_toArray, List.set_cons_zero, List.set_cons_succ]
      refine callL (i := 10) (by kernel_rfl) rfl (fun K hQ => ?_)
      go_simp
      generalize hx : World.alloc X2 _ = X3
      have HZ : Hid (SrcAt X3 1 (some ⟨X2.heap.size, 0, none⟩) 3 [.int .i64 0, .int .i64 0, .int .i64 0]) := by subst hx; exact src_new rfl
      have HB : Hid (X3.heap[w.heap.size]? = some (.cells #[.int .i64 p.k, .int .i64 p.t, .int .i64 p.a, .int .i64 p.n] 27 (0, 0))) := by subst hx; exact hid ((Below.heap_alloc _ _ _ (Array.getElem?_eq_some_iff.1 HB.out).1).trans HB.out)
      have HX : Hid (Below w.heap.size w X3) := by subst hx; exact hid (HX.out.alloc HX.out.size _)
      have HL : Hid (X3.ownsRow X1.heap.size 3 1 v m (ls.map (Value.int .i64))) := by subst hx; exact hid (World.ownsRow.alloc HL.out _)
      have hyz : X1.heap.size ≤ X3.heap.size := by subst hx; simp; omega
      clear hx q0 q1 q2 q3
      obtain ⟨q0, q1, q2, q3⟩ := pbox_cells HB.out
      refine hQ.out _ _ ⟨q0, q1, q2, q3⟩ (fun hHeld => ?_)
      clear hQ
      try simp only [Act.put, List.setIfInBounds_toArray, List.set_cons_zero, List.set_cons_succ]
      refine callL (i := 11) (by kernel_rfl) rfl (fun K hQ => ?_)
      refine step_i6g (base := X1.heap.size) (.tmp 14) (.tmp 15) v m (ls.map (Value.int .i64)) 3 [.int .i64 0, .int .i64 0, .int .i64 0] ?_ ?_ ?_ HL.out ⟨_, _, rfl, HZ.out⟩ zeros_one (by omega) (by omega) ?_
      · rfl
      · rfl
      · rfl
      intro v2 W2 hO2 hg2 hat2
      have hown : ∀ k, v.ownBlock = some k → w.heap.size < k := fun k hk => by have := (HL.out.lt k hk).1; omega
      have HB := hid ((hg2.block _ (Array.getElem?_eq_some_iff.1 HB.out).1 fun e => by have := hown _ e.symm; omega).trans HB.out)
      have HX := hid (HX.out.grown hg2 HX.out.size fun k e => by have := hown k e; omega)
      obtain ⟨a2, c2, rfl, hI⟩ := IntIn.of_own (l := ls ++ [0, 0, 0]) (by rw [List.length_append, Hm.out, List.map_append]; exact hO2)
      have hl3 : (ls ++ [0, 0, 0]).length = m + 3 := by rw [List.length_append, Hm.out]; rfl
      rw [hl3] at hI ⊢
      have HI := hid (hI.widen (S' := In_ W2) fun b hb => hb.2)
      obtain ⟨q0, q1, q2, q3⟩ := pbox_cells HB.out
      clear hO2 hg2 hat2 hown hI
      refine hQ.out _ _ ⟨q0, q1, q2, q3⟩ (fun hHeld => ?_)
      clear hQ
      try simp only [Act.put, List.setIfInBounds_toArray, List.set_cons_zero, List.set_cons_succ]
      refine callL (i := 12) (by kernel_rfl) rfl (fun K hQ => ?_)
      go_simp
      go_at_call 60
      with_reducible refine (HO.out _ _ W2 HI.out).mono ?_
      rintro e X4 ⟨rfl, hb⟩
      have HB := hid ((hb.block _ (Array.getElem?_eq_some_iff.1 HB.out).1).trans HB.out)
      have HX := hid (HX.out.trans (hb.mono HX.out.size))
      obtain ⟨q0, q1, q2, q3⟩ := pbox_cells HB.out
      clear hb
      refine hQ.out _ _ ⟨q0, q1, q2, q3⟩ (fun hHeld => ?_)
      clear hQ
      try simp only [Act.put, List.setIfInBounds_toArray, List.set_cons_zero, List.set_cons_succ]
      refine takeL (i := 13) (v := ?_) rfl (by kernel_rfl) (by kernel_rfl) (by kernel_rfl) (fun _ _ _ h => h) (Or.inl ⟨by rfl, ?_⟩) (by assumption) ?_
      rotate_left
      focus (intro w hSw; go_simp; try with_reducible rfl)
      try simp only [Act.put, List.setIfInBounds_toArray, List.set_cons_zero, List.set_cons_succ]
      refine takeL (i := 14) (v := ?_) rfl (by kernel_rfl) (by kernel_rfl) (by kernel_rfl) (fun _ _ _ h => h) (Or.inl ⟨by rfl, ?_⟩) (by assumption) ?_
      rotate_left
      focus (intro w hSw; go_simp; try with_reducible rfl)
      try simp only [Act.put, List.setIfInBounds_toArray, List.set_cons_zero, List.set_cons_succ]
      refine wpAnyH_done (by kernel_rfl) ?_ _
      clear hHeld
      go_wp2_with fail
      go_meet
      case rel => exact ⟨rfl, HB.out, HX.out⟩
    · go_simp
      generalize hx : World.alloc X1 _ = X5
      have HZ : Hid (SrcAt X5 1 (some ⟨X1.heap.size, 0, none⟩) 3 [.int .i64 0, .int .i64 0, .int .i64 0]) := by subst hx; exact src_new rfl
      have HB : Hid (X5.heap[w.heap.size]? = some (.cells #[.int .i64 p.k, .int .i64 p.t, .int .i64 p.a, .int .i64 p.n] 27 (0, 0))) := by subst hx; exact hid ((Below.heap_alloc _ _ _ (Array.getElem?_eq_some_iff.1 HB.out).1).trans HB.out)
      have HX : Hid (Below w.heap.size w X5) := by subst hx; exact hid (HX.out.alloc HX.out.size _)
      clear hx q0 q1 q2 q3
      obtain ⟨q0, q1, q2, q3⟩ := pbox_cells HB.out
      refine hQ.out _ _ ⟨q0, q1, q2, q3⟩ (fun hHeld => ?_)
      clear hQ
      try simp only [Act.put, List.setIfInBounds_toArray, List.set_cons_zero, List.set_cons_succ]
      refine callL (i := 9) (by kernel_rfl) rfl (fun K hQ => ?_)
      go_simp
      go_at_call 32
      have hwx : w.heap.size < X5.heap.size := (Array.getElem?_eq_some_iff.1 HB.out).1
      with_reducible refine (HN.out X5).mono ?_
      rintro e X6 ⟨v, rfl, hN, hb⟩
      have HB := hid ((hb.block _ (Array.getElem?_eq_some_iff.1 HB.out).1).trans HB.out)
      have HX := hid (HX.out.trans (hb.mono HX.out.size))
      have hxz : X5.heap.size ≤ X6.heap.size := hb.size
      have hwx : w.heap.size < X5.heap.size := by have := (Array.getElem?_eq_some_iff.1 HB.out).1; omega
      have hL := hN.2
      rw [Hm.out] at hL
      have HL := hid hL
      obtain ⟨q0, q1, q2, q3⟩ := pbox_cells HB.out
      have HZ := hid (SrcAt.grown HZ.out (below_grown hb none) (.inl rfl))
      clear hb hN hL
      refine hQ.out _ _ ⟨q0, q1, q2, q3⟩ (fun hHeld => ?_)
      clear hQ
      try simp only [Act.put, List.setIfInBounds_toArray, List.set_cons_zero, List.set_cons_succ]
      refine callL (i := 11) (by kernel_rfl) rfl (fun K hQ => ?_)
      refine step_i6g (base := X5.heap.size) (.tmp 14) (.tmp 15) v m (ls.map (Value.int .i64)) 3 [.int .i64 0, .int .i64 0, .int .i64 0] ?_ ?_ ?_ HL.out ⟨_, _, rfl, HZ.out⟩ zeros_one (by omega) (by omega) ?_
      · rfl
      · rfl
      · rfl
      intro v2 W2 hO2 hg2 hat2
      have hown : ∀ k, v.ownBlock = some k → w.heap.size < k := fun k hk => by have := (HL.out.lt k hk).1; omega
      have HB := hid ((hg2.block _ (Array.getElem?_eq_some_iff.1 HB.out).1 fun e => by have := hown _ e.symm; omega).trans HB.out)
      have HX := hid (HX.out.grown hg2 HX.out.size fun k e => by have := hown k e; omega)
      obtain ⟨a2, c2, rfl, hI⟩ := IntIn.of_own (l := ls ++ [0, 0, 0]) (by rw [List.length_append, Hm.out, List.map_append]; exact hO2)
      have hl3 : (ls ++ [0, 0, 0]).length = m + 3 := by rw [List.length_append, Hm.out]; rfl
      rw [hl3] at hI ⊢
      have HI := hid (hI.widen (S' := In_ W2) fun b hb => hb.2)
      obtain ⟨q0, q1, q2, q3⟩ := pbox_cells HB.out
      clear hO2 hg2 hat2 hown hI
      refine hQ.out _ _ ⟨q0, q1, q2, q3⟩ (fun hHeld => ?_)
      clear hQ
      try simp only [Act.put, List.setIfInBounds_toArray, List.set_cons_zero, List.set_cons_succ]
      refine callL (i := 12) (by kernel_rfl) rfl (fun K hQ => ?_)
      go_simp
      go_at_call 60
      with_reducible refine (HO.out _ _ W2 HI.out).mono ?_
      rintro e X7 ⟨rfl, hb⟩
      have HB := hid ((hb.block _ (Array.getElem?_eq_some_iff.1 HB.out).1).trans HB.out)
      have HX := hid (HX.out.trans (hb.mono HX.out.size))
      obtain ⟨q0, q1, q2, q3⟩ := pbox_cells HB.out
      clear hb
      refine hQ.out _ _ ⟨q0, q1, q2, q3⟩ (fun hHeld => ?_)
      clear hQ
      try simp only [Act.put, List.setIfInBounds_toArray, List.set_cons_zero, List.set_cons_succ]
      refine takeL (i := 13) (v := ?_) rfl (by kernel_rfl) (by kernel_rfl) (by kernel_rfl) (fun _ _ _ h => h) (Or.inl ⟨by rfl, ?_⟩) (by assumption) ?_
      rotate_left
      focus (intro w hSw; go_simp; try with_reducible rfl)
      try simp only [Act.put, List.setIfInBounds_toArray, List.set_cons_zero, List.set_cons_succ]
      refine takeL (i := 14) (v := ?_) rfl (by kernel_rfl) (by kernel_rfl) (by kernel_rfl) (fun _ _ _ h => h) (Or.inl ⟨by rfl, ?_⟩) (by assumption) ?_
      rotate_left
      focus (intro w hSw; go_simp; try with_reducible rfl)
      try simp only [Act.put, List.setIfInBounds_toArray, List.set_cons_zero, List.set_cons_succ]
      refine wpAnyH_done (by kernel_rfl) ?_ _
      clear hHeld
      go_wp2_with fail
      go_meet
      case rel => exact ⟨rfl, HB.out, HX.out⟩
  case rest =>
  obtain ⟨rfl, hB, hX⟩ := hcut
  rename World => W1
  have HB := hid hB
  have HX := hid hX
  clear hB hX hwn HW HO hXe hln
  obtain ⟨q0, q1, q2, q3⟩ := pbox_cells HB.out
  go_upto_region 5 with (first
    | (go_at_call 32
       with_reducible refine (HN.out W1).mono ?_
       rintro e W2 ⟨v, rfl, hN, hb⟩
       have HX2 := hid (HX.out.trans (hb.mono HX.out.size))
       obtain ⟨a2, c2, rfl, hI⟩ := IntIn.of_own hN.2
       have HI := hid (hI.widen (S' := In_ W2) fun b hb => hb.2)
       clear hN hb hI)
    | fail)
  have hle := HI.out.2.le
  have hmx := HI.out.2.mx
  unfold maxLen at hmx
  go_loopw [4] (fun iv wr => ∃ k : Nat, k ≤ ls.length ∧ iv = .int .i64 k ∧ W2 = wr) (fun iv _ => ls.length - (intOf iv).toNat)
  case atStart => exact ⟨0, Nat.zero_le _, rfl, rfl⟩
  case round =>
    obtain ⟨k, hk, rfl, hw⟩ := hrel
    subst hw
    by_cases hlt : k < ls.length
    · obtain ⟨b, off, rfl, hb, hc⟩ := HI.out.at_ k hlt
      obtain ⟨g0, g1⟩ := Hrg.out _ (List.getElem_mem hlt)
      generalize ls[k] = y at hc g0 g1
      have k0 : (0 : Int) ≤ k := by omega
      have k1 : (k : Int) < ls.length := by omega
      have d0 : decide (y < 0) = false := decide_eq_false (by omega)
      have d1 : decide (999999 < y) = false := decide_eq_false (by omega)
      have d2 : decide ((k : Int) < (ls.length : Int)) = true := decide_eq_true k1
      clear Hm hb
      go_wp2_with fail
      refine ⟨⟨k + 1, hlt, by simp, trivial⟩, by simp [intOf]; omega⟩
    · obtain rfl : k = ls.length := by omega
      have d2 : decide ((ls.length : Int) < (ls.length : Int)) = false := decide_eq_false (by omega)
      clear Hm
      go_wp2_with fail
      go_ret
      exact ⟨rfl, HX2.out⟩
end Go.Proofs.YtogopcejapklgaaGreatDoor
namespace Go.Proofs.YtogopcejapklgaaGreatDoor
open Go Go.RowKit

/-- right, of so much depth. -/
def RrAt (d : Nat) : Prop := ∀ (f : Fm) (a : Option Addr) (cap : Nat) (wi : Int) (w : World), okD d f → f.size ≤ 200 → (d : Int) ≤ wi → wi ≤ 20 → FmIn w (In_ w) (fmC f.kind f.prop a f.kids.length cap) f →
  Calls Tryz.prog 29 #[.agg #[.int .i64 f.kind, .int .i64 f.prop.k, .int .i64 f.prop.t, .int .i64 f.prop.a, .int .i64 f.prop.n, .slice a f.kids.length cap], .int .i64 wi] w fun e w' => e = .returned (.tuple #[.int .i64 (f.size : Nat), .bool true]) ∧ Below w.heap.size w w'
theorem sizeL_take {l : List Fm} {j : Nat} (hj : j < l.length) : Fm.sizeL (l.take (j + 1)) = Fm.sizeL (l.take j) + l[j].size := by
  rw [List.take_succ_eq_append_getElem hj, Fm.sizeL_append, Fm.sizeL_cons, Fm.sizeL_nil]
  omega
theorem sizeL_take_le (l : List Fm) (j : Nat) : Fm.sizeL (l.take j) ≤ Fm.sizeL l := by
  conv => rhs; rw [← List.take_append_drop j l]
  rw [Fm.sizeL_append]
  omega
theorem kid_size {l : List Fm} {j : Nat} (hj : j < l.length) : l[j].size ≤ Fm.sizeL l := by
  have h1 := sizeL_take hj
  have h2 := sizeL_take_le l (j + 1)
  omega

set_option maxRecDepth 100000 in
set_option maxHeartbeats 8000000 in
theorem rright_step (d : Nat) (ih : RrAt d) : RrAt (d + 1) := by
  intro f a cap wi w hok hs hwi hwi2 hin
  obtain ⟨k, p, l⟩ := f
  simp only [Fm.kind, Fm.prop, Fm.kids] at hin ⊢
  rw [okD_succ] at hok
  obtain ⟨hok, hl⟩ := hok
  obtain ⟨a', cap', e', -, -, hrow⟩ := hin.open_
  simp only [List.cons.injEq, Value.slice.injEq, and_true, true_and] at e'
  obtain ⟨rfl, rfl⟩ := e'
  rw [Fm.size_eq] at hs
  have hk12 : 1 ≤ k ∧ k ≤ 12 := by
    rcases hok with ⟨h, -, -⟩ | ⟨h, -, -⟩
    · omega
    · unfold isFrm at h; omega
  have hlen : l.length = frmK k := by
    rcases hok with ⟨h, -, h2⟩ | ⟨-, -, h⟩
    · rw [h, h2]; rfl
    · exact h
  have hle := hrow.le
  have hmx := hrow.mx
  unfold maxLen at hmx
  have hl2 : l.length ≤ 2 := by rw [hlen]; exact frmK_le k
  have HKd := hid (rkids_any k hk12)
  rw [← hlen] at HKd
  have Hrow : Hid (∀ x, Below w.heap.size w x → FmRow x (In_ x) a l.length cap l) := hid fun x hb => (hrow.keep fun b o hlt => hb.cell (p := ⟨b, o, none⟩) hlt).widen fun b hlt => Nat.lt_of_lt_of_le hlt hb.size
  have Hih : Hid (∀ (j : Nat) (hj : j < l.length) (b : Option Addr) (c : Nat) (x : World), FmIn x (In_ x) (fmC l[j].kind l[j].prop b l[j].kids.length c) l[j] → Calls Tryz.prog 29 #[.agg #[.int .i64 l[j].kind, .int .i64 l[j].prop.k, .int .i64 l[j].prop.t, .int .i64 l[j].prop.a, .int .i64 l[j].prop.n, .slice b l[j].kids.length c], .int .i64 (wi - 1)] x fun e w' => e = .returned (.tuple #[.int .i64 (l[j].size : Nat), .bool true]) ∧ Below x.heap.size x w') :=
    hid fun j hj b c x hx => ih l[j] b c (wi - 1) x (okL_mem hl _ (List.getElem_mem hj)) (by have := kid_size hj; omega) (by omega) (by omega) hx
  have Hsz := hid (fun j => sizeL_take_le l j)
  have Hst := hid (fun (j : Nat) (hj : j < l.length) => sizeL_take hj)
  have hw1 : IntKind.i64.wrap (wi - 1) = wi - 1 := IntWalk.i64_in _ (by omega)
  have d0 : decide (wi < 1) = false := decide_eq_false (by omega)
  have d1 : ((l.length : Int) != (l.length : Int)) = false := by simp
  have Hfs : Hid ((((Fm.mk k p l).size : Nat) : Int) = 1 + (Fm.sizeL l : Nat)) := hid (by rw [Fm.size_eq]; omega)
  have Hs := hid hs
  have Hok := hid hok
  obtain ⟨pk, pt, pa, pn⟩ := p
  simp only at *
  generalize (Fm.mk k ⟨pk, pt, pa, pn⟩ l).size = S at *
  clear hin hok hl hrow ih hk12 hlen hs hwi hwi2
  go_enter Tryz.func29, Tryz.ntmps29
  go_upto_region 1 with fail
  generalize hW : World.alloc w _ = W0
  have HB0 : Hid (Below w.heap.size w W0) := by subst hW; exact hid ((Below.refl _ _).alloc (Nat.le_refl _) _)
  have hB0 : W0.heap[w.heap.size]? = some (.cells #[.int .i64 k, .int .i64 pk, .int .i64 pt, .int .i64 pa, .int .i64 pn, .slice a l.length cap] 30 (0, 0)) := by subst hW; exact alloc_at rfl
  have z0 := cell_of_heap (j := 0) hB0
  have z1 := cell_of_heap (j := 1) hB0
  have z2 := cell_of_heap (j := 2) hB0
  have z3 := cell_of_heap (j := 3) hB0
  have z4 := cell_of_heap (j := 4) hB0
  have z5 := cell_of_heap (j := 5) hB0
  simp at z0 z1 z2 z3 z4 z5
  have HBx := hid hB0
  clear hW hB0
  go_upto_region 2 with (first
    | (go_at_call 19
       with_reducible refine (HKd.out W0).mono ?_
       rintro e W0 ⟨rfl, rfl⟩)
    | fail)
  clear HKd z0 z1 z2 z3 z4 z5
  go_cut [44] from 14 to 43 (fun v wx => v = .bool false ∧ wx.heap[w.heap.size]? = some (.cells #[.int .i64 k, .int .i64 pk, .int .i64 pt, .int .i64 pa, .int .i64 pn, .slice a l.length cap] 30 (0, 0)) ∧ Below w.heap.size w wx)
  case first =>
    have z0 := cell_of_heap (j := 0) HBx.out
    have z1 := cell_of_heap (j := 1) HBx.out
    have z2 := cell_of_heap (j := 2) HBx.out
    have z3 := cell_of_heap (j := 3) HBx.out
    have z4 := cell_of_heap (j := 4) HBx.out
    have z5 := cell_of_heap (j := 5) HBx.out
    simp at z0 z1 z2 z3 z4 z5
    clear Hih Hrow Hsz Hst Hs Hfs hl2 hle hmx hw1
    rcases Hok.out with ⟨rfl, hP, -⟩ | ⟨hk, hpz, -⟩
    · have HP := hid (fun W => rprop_any ⟨pk, pt, pa, pn⟩ hP W)
      clear Hok hP
      go_wp2_with (first
        | (go_at_call 49
           refine (HP.out W0).mono ?_
           rintro e W1 ⟨rfl, hb⟩
           have HB1 := hid (HB0.out.trans (hb.mono HB0.out.size))
           have HBx1 := hid ((hb.block _ (Array.getElem?_eq_some_iff.1 HBx.out).1).trans HBx.out)
           have y0 := cell_of_heap (j := 0) HBx1.out
           simp at y0
           clear hb)
        | fail)
      go_meet
      case rel => exact ⟨rfl, HBx1.out, HB1.out⟩
    · have hk3 : (k == 3) = false := by simpa using hk.ne
      have hk3' : (k != 3) = true := by simpa using hk.ne
      obtain ⟨rfl, rfl, rfl, rfl⟩ : pk = 0 ∧ pt = 0 ∧ pa = 0 ∧ pn = 0 := by
        have : (⟨pk, pt, pa, pn⟩ : Pr) = ⟨0, 0, 0, 0⟩ := hpz
        injection this with e1 e2 e3 e4
        exact ⟨e1, e2, e3, e4⟩
      clear Hok hk hpz
      go_wp2_with fail
      go_meet
      case rel => exact ⟨rfl, HBx.out, HB0.out⟩
  case rest =>
  obtain ⟨rfl, hBx, hB⟩ := hcut
  rename World => W1
  have HBx := hid hBx
  have HB := hid hB
  clear hBx hB HB0 Hok d0 d1
  go_upto_region 6 with fail
  go_loopw [7, 8, 9, 10] (fun nv iv av bv wr => ∃ j : Nat, j ≤ l.length ∧ iv = .int .i64 j ∧ nv = .int .i64 (1 + (Fm.sizeL (l.take j) : Nat)) ∧ Hid (Below w.heap.size w wr) ∧ Hid (wr.heap[w.heap.size]? = some (.cells #[.int .i64 k, .int .i64 pk, .int .i64 pt, .int .i64 pa, .int .i64 pn, .slice a l.length cap] 30 (0, 0)))) (fun _ iv _ _ _ => l.length - (intOf iv).toNat)
  case atStart => exact ⟨0, Nat.zero_le _, rfl, by rw [List.take_zero, Fm.sizeL_nil]; rfl, HB, HBx⟩
  case round =>
    rename World => x
    obtain ⟨j, hj, rfl, rfl, HX, HC⟩ := hrel
    have z5 := cell_of_heap (j := 5) HC.out
    simp at z5
    by_cases hlt : j < l.length
    · obtain ⟨b, off, ka, kc, rfl, hb, ⟨c0, c1, c2, c3, c4, c5⟩, -, hF⟩ := (Hrow.out x HX.out).at_ j hlt
      have HR := hid (Hih.out j hlt ka kc x hF)
      have hst := Hst.out j hlt
      have hsz := Hsz.out (j + 1)
      have hs2 := Hs.out
      generalize l[j] = g at *
      have hnw : IntKind.i64.wrap ((1 : Int) + (Fm.sizeL (l.take j) : Nat) + (g.size : Nat)) = (1 : Int) + (Fm.sizeL (l.take j) : Nat) + (g.size : Nat) := IntWalk.i64_in _ (by omega)
      have hfin : Hid ((1 : Int) + (Fm.sizeL (l.take j) : Nat) + (g.size : Nat) = 1 + (Fm.sizeL (l.take (j + 1)) : Nat)) := hid (by omega)
      have d200 : decide ((200 : Int) < (1 : Int) + (Fm.sizeL (l.take j) : Nat) + (g.size : Nat)) = false := decide_eq_false (by omega)
      generalize Fm.sizeL (l.take j) = sj at *
      generalize g.size = gs at *
      generalize g.kind = gk at *
      generalize g.prop.k = pk2 at *
      generalize g.prop.t = pt2 at *
      generalize g.prop.a = pa2 at *
      generalize g.prop.n = pn2 at *
      generalize g.kids.length = gl at *
      have j0 : (0 : Int) ≤ j := by omega
      have j1 : (j : Int) < l.length := by omega
      have d2 : decide ((j : Int) < (l.length : Int)) = true := decide_eq_true j1
      clear hst hsz hs2 hF
      go_wp2_with (first
        | (go_at_call 29
           with_reducible refine HR.out.mono ?_
           rintro e y ⟨rfl, hb2⟩
           have HX2 := hid (HX.out.trans (hb2.mono HX.out.size))
           have HC2 := hid ((hb2.block _ (Array.getElem?_eq_some_iff.1 HC.out).1).trans HC.out)
           clear hb2)
        | fail)
      refine ⟨⟨j + 1, hlt, by simp, by rw [← hfin.out], HX2, HC2⟩, by simp [intOf]; omega⟩
    · obtain rfl : j = l.length := by omega
      have d2 : decide ((l.length : Int) < (l.length : Int)) = false := decide_eq_false (by omega)
      rw [List.take_length]
      have Hf := hid Hfs.out.symm
      generalize Fm.sizeL l = sl at *
      clear Hfs Hst Hsz Hih Hrow
      go_wp2_with fail
      go_ret2
      exact ⟨by rw [← Hf.out]; rfl, HX.out⟩
theorem rright_all : ∀ d, RrAt d
  | 0 => fun f _ _ _ _ h => absurd h (okD_zero f)
  | d + 1 => rright_step d (rright_all d)
end Go.Proofs.YtogopcejapklgaaGreatDoor
namespace Go.Proofs.YtogopcejapklgaaGreatDoor
open Go Go.RowKit

/-- What text answers. -/
def TxP (f : Fm) (w : World) (e : Ending) (w' : World) : Prop := ∃ t : ByteArray, e = .returned (.string t) ∧ t.size ≤ 40 * f.size ∧ Below w.heap.size w w'
def RTxAt (d : Nat) : Prop := ∀ (f : Fm) (a : Option Addr) (cap : Nat) (w : World), okD d f → f.size ≤ 200 → FmIn w (In_ w) (fmC f.kind f.prop a f.kids.length cap) f →
  Calls Tryz.prog 16 #[.agg #[.int .i64 f.kind, .int .i64 f.prop.k, .int .i64 f.prop.t, .int .i64 f.prop.a, .int .i64 f.prop.n, .slice a f.kids.length cap]] w (TxP f w)
theorem sg_alloc {w x : World} (h : Below w.heap.size w x) (o : Obj) : Below w.heap.size w (x.alloc o) := h.alloc h.size o
theorem add_any {a b : ByteArray} (ha : a.size ≤ 100000) (hb : b.size ≤ 100000) (W : World) : (Op.stringOp .add a b).run Tryz.prog W = .ok (.string (a ++ b)) W := run_string_add_sum W _ _ (by omega)
theorem frm_len (k : Int) : (frmN k).length ≤ 7 := by
  unfold frmN
  repeat' split
  all_goals decide
theorem shp_len (k : Int) : (shpN k).length ≤ 5 := by
  unfold shpN
  repeat' split
  all_goals decide
/-- The signs ahead of parts. -/
def sgA (j : Nat) : ByteArray := if j = 0 then ⟨#[40]⟩ else ⟨#[44, 32]⟩
theorem sgA_size (j : Nat) : (sgA j).size ≤ 2 := by unfold sgA; split <;> decide

set_option maxRecDepth 100000 in
set_option maxHeartbeats 16000000 in
theorem text_atomR (p : Pr) (hp : okP p) (a : Option Addr) (cap : Nat) (w : World) :
    Calls Tryz.prog 16 #[.agg #[.int .i64 3, .int .i64 p.k, .int .i64 p.t, .int .i64 p.a, .int .i64 p.n, .slice a 0 cap]] w (TxP (.mk 3 p []) w) := by
  have hk := hp.1
  have hk12 : 1 ≤ p.k ∧ p.k ≤ 12 := by unfold isShp at hk; omega
  have HW := hid (rword_any 3 (by omega))
  have HPW := hid (rpropword_any p.k hk12)
  have HN : Hid (∀ W, Calls Tryz.prog 32 #[.agg #[.int .i64 p.k, .int .i64 p.t, .int .i64 p.a, .int .i64 p.n]] W fun e w' => ∃ a cap, e = .returned (.slice a (numsP p).length cap) ∧ IntIn w' (In_ w') a (numsP p).length cap (numsP p) ∧ Below W.heap.size W w') := hid fun W => by
    refine (rnumbers_any p hk W).mono ?_
    rintro e w' ⟨a, cap, rfl, hI, hb⟩
    exact ⟨a, cap, rfl, hI.widen fun b hb => hb.2, hb⟩
  have Hrg := hid hp.2.1
  have hln : (numsP p).length ≤ 3 := by simp only [numsP, List.length_map]; exact offs_len _
  have hS := shp_len p.k
  have hS2 : (⟨(shpN p.k).toArray⟩ : ByteArray).size ≤ 5 := by rw [← data_len]; simpa using hS
  have HD := hid (fun n h0 h1 W => rdigits_le 6 (by omega) (by omega) n h0 h1 W)
  unfold DgP at HD
  have Hsz : Hid ((Fm.mk 3 p []).size = 1) := hid (by rw [Fm.size_eq, Fm.sizeL_nil])
  obtain ⟨pk, pt, pa, pn⟩ := p
  simp only at *
  generalize numsP ⟨pk, pt, pa, pn⟩ = ls at *
  obtain ⟨S0, hS0⟩ : ∃ S0 : ByteArray, (⟨(shpN pk).toArray⟩ : ByteArray) = S0 := ⟨_, rfl⟩
  rw [hS0] at hS2
  have HPW2 : Hid (∀ W, Calls Tryz.prog 31 #[.int .i64 pk] W fun e w' => e = .returned (.string S0) ∧ Below W.heap.size W w') := by subst hS0; exact HPW
  clear hS0 HPW
  have HPW := HPW2
  clear HPW2
  have hfin : Hid (∀ (t : ByteArray) W, t.size ≤ 40 → Below w.heap.size w W → TxP (.mk 3 ⟨pk, pt, pa, pn⟩ []) w (.returned (.string t)) W) := hid fun t W h1 h2 => ⟨t, rfl, by rw [Hsz.out]; omega, h2⟩
  clear hk hk12 hp hS Hsz
  go_enter Tryz.func16, Tryz.ntmps16
  go_upto_region 1 with fail
  generalize hW : World.alloc w _ = W0
  have HB0 : Hid (Below w.heap.size w W0) := by subst hW; exact hid ((Below.refl _ _).alloc (Nat.le_refl _) _)
  have HBx : Hid (W0.heap[w.heap.size]? = some (fmO 3 ⟨pk, pt, pa, pn⟩ (.slice a 0 cap))) := by subst hW; exact hid (alloc_at rfl)
  clear hW
  obtain ⟨z9, zf, z0, z1, z2, z3, z4, z5⟩ := fmO_cells HBx.out
  go_upto_region 5 with (first
    | (go_at_call 30
       with_reducible refine (HW.out W0).mono ?_
       rintro e W1 ⟨rfl, hb⟩
       have HB1 := hid (HB0.out.trans (hb.mono HB0.out.size))
       have HBx1 := hid ((hb.block _ z9).trans HBx.out)
       obtain ⟨z9, zf, z0, z1, z2, z3, z4, z5⟩ := fmO_cells HBx1.out
       clear hb)
    | (go_at_call 31
       with_reducible refine (HPW.out W1).mono ?_
       rintro e W2 ⟨rfl, hb⟩
       have HB2 := hid (HB1.out.trans (hb.mono HB1.out.size))
       have HBx2 := hid ((hb.block _ z9).trans HBx1.out)
       obtain ⟨z9, zf, z0, z1, z2, z3, z4, z5⟩ := fmO_cells HBx2.out
       clear hb)
    | (go_at_call 32
       with_reducible refine (HN.out W2).mono ?_
       rintro e W3 ⟨a3, c3, rfl, hI, hb⟩
       have HB3 := hid (HB2.out.trans (hb.mono HB2.out.size))
       have HI := hid hI
       clear hb hI)
    | fail)
  clear z9 zf z0 z1 z2 z3 z4 z5 HB0 HBx HB1 HBx1 HB2 HBx2 HW HPW HN
  have hle := HI.out.2.le
  have hmx := HI.out.2.mx
  unfold maxLen at hmx
  go_upto_region 6 with fail
  go_loopw [3, 5] (fun sv iv wr => ∃ (j : Nat) (t : ByteArray), j ≤ ls.length ∧ iv = .int .i64 j ∧ sv = .string t ∧ t.size ≤ 5 + 8 * j ∧ Hid (Below W3.heap.size W3 wr)) (fun _ iv _ => ls.length - (intOf iv).toNat)
  case atStart => exact ⟨0, S0, Nat.zero_le _, rfl, rfl, by omega, hid (Below.refl _ _)⟩
  case round =>
    rename World => xw
    obtain ⟨j, t, hj, rfl, rfl, ht, HZ⟩ := hrel
    by_cases hlt : j < ls.length
    · obtain ⟨b, off, rfl, hb, kc0⟩ := HI.out.at_ j hlt
      have hb0 : b < W3.heap.size := hb
      have hbx : b < xw.drew.heap.size := Nat.lt_of_lt_of_le hb0 HZ.out.size
      have kc : xw.drew.cell? ⟨b, off + j, none⟩ = some (.int .i64 ls[j]) := (HZ.out.cell (p := ⟨b, off + j, none⟩) hb0).trans kc0
      obtain ⟨g0, g1⟩ := Hrg.out _ (List.getElem_mem hlt)
      have HDy := hid (fun W => HD.out ls[j] g0 (by have h6 : (10 : Int) ^ 6 = 1000000 := (by decide); rw [h6]; omega) W)
      generalize ls[j] = y at kc HDy
      obtain ⟨sg, hsg⟩ : ∃ sg, sg = sgA j := ⟨_, rfl⟩
      have hsz := sgA_size j
      have hj3 : j = 0 ∨ j = 1 ∨ j = 2 := by omega
      have hcs : ∀ W : World, (W.alloc (.cells #[.string ⟨#[40]⟩, .string ⟨#[44, 32]⟩, .string ⟨#[44, 32]⟩] 9)).cell? ⟨W.heap.size, j, none⟩ = some (.string sg) := fun W => by
        rw [hsg]
        rcases hj3 with rfl | rfl | rfl <;> go_simp <;> rfl
      rw [← hsg] at hsz
      obtain ⟨C1, hC1⟩ : ∃ C1, C1 = t ++ sg := ⟨_, rfl⟩
      have hC1s : C1.size ≤ 5 + 8 * j + 2 := by rw [hC1, ByteArray.size_append]; omega
      have ha1 : ∀ W, (Op.stringOp .add t sg).run Tryz.prog W = .ok (.string C1) W := fun W => by rw [hC1]; exact add_any (by omega) (by omega) W
      have j0 : (0 : Int) ≤ j := by omega
      have j1 : (j : Int) < 3 := by omega
      have j2 : (j : Int) < ls.length := by omega
      have j3 : j < 3 := by omega
      have d1 : decide ((j : Int) < (ls.length : Int)) = true := decide_eq_true j2
      clear hsg hC1 kc0 g0 g1 hj3
      go_upto_region 8 with fail
      refine wp_region_held_drew (S := fun W => W.cell? ⟨b, off + j, none⟩ = some (.int .i64 y)) (by kernel_rfl) kc (fun hHeld => ?_)
      have HX : Hid (Below xw.heap.size xw xw.drew) := hid (Below.refl _ _).drew
      generalize World.drew xw = X0 at HX kc hbx hHeld ⊢
      refine takeL (i := 0) (v := ?_) rfl (by kernel_rfl) (by kernel_rfl) (by kernel_rfl) (fun _ _ _ h => h) (Or.inl ⟨by rfl, ?_⟩) (by assumption) ?_
      rotate_left
      focus (intro w hSw; go_simp; try with_reducible rfl)
      try simp only [Act.put, List.setIfInBounds_toArray, List.set_cons_zero, List.set_cons_succ]
      refine takeL (i := 2) (v := ?_) rfl (by kernel_rfl) (by kernel_rfl) (by kernel_rfl) (fun _ _ _ h => h) (Or.inl ⟨by rfl, ?_⟩) (by assumption) ?_
      rotate_left
      focus (intro w hSw; go_simp; try with_reducible rfl)
      try simp only [Act.put, List.setIfInBounds_toArray, List.set_cons_zero, List.set_cons_succ]
      refine takeL (i := 6) (v := ?_) rfl (by kernel_rfl) (by kernel_rfl) (by kernel_rfl) (fun _ _ _ h => h) (Or.inl ⟨by rfl, ?_⟩) (by assumption) ?_
      rotate_left
      focus (intro w hSw; go_simp; try with_reducible rfl)
      try simp only [Act.put, List.setIfInBounds_toArray, List.set_cons_zero, List.set_cons_succ]
      refine takeL (i := 7) (v := ?_) rfl (by kernel_rfl) (by kernel_rfl) (by kernel_rfl) (fun _ _ _ h => h) (Or.inl ⟨by rfl, ?_⟩) (by assumption) ?_
      rotate_left
      focus (intro w hSw; go_simp; try with_reducible rfl)
      try simp only [Act.put, List.setIfInBounds_toArray, List.set_cons_zero, List.set_cons_succ]
      refine takeL (i := 8) (v := ?_) rfl (by kernel_rfl) (by kernel_rfl) (by kernel_rfl) (fun _ _ _ h => h) (Or.inl ⟨by rfl, ?_⟩) (by assumption) ?_
      rotate_left
      focus (intro w hSw; go_simp; try with_reducible rfl)
      try simp only [Act.put, List.setIfInBounds_toArray, List.set_cons_zero, List.set_cons_succ]
      refine takeL (i := 9) (v := ?_) rfl (by kernel_rfl) (by kernel_rfl) (by kernel_rfl) (fun _ _ _ h => h) (Or.inl ⟨by rfl, ?_⟩) (by assumption) ?_
      rotate_left
      focus (intro w hSw; go_simp; try with_reducible rfl)
      try simp only [Act.put, List.setIfInBounds_toArray, List.set_cons_zero, List.set_cons_succ]
      refine callL2 (i := 1) (j := 10) (by kernel_rfl) rfl rfl (fun K hQ => ?_) (fun K hQ => ?_)
      · go_simp
        generalize hx : World.alloc X0 _ = X1
        have kz : X1.cell? ⟨X0.heap.size, j, none⟩ = some (.string sg) := by subst hx; exact hcs X0
        have hkz : X0.heap.size < X1.heap.size := by subst hx; simp
        have HX : Hid (Below xw.heap.size xw X1) := by subst hx; exact hid (sg_alloc HX.out _)
        have kc : X1.cell? ⟨b, off + j, none⟩ = some (.int .i64 y) := by subst hx; exact (World.cell?_alloc_lt _ _ _ hbx).trans kc
        have hbx : b < X1.heap.size := Nat.lt_trans hbx (by subst hx; simp)
        clear hx
        refine hQ.out _ _ kc (fun hHeld => ?_)
        clear hQ
        try simp only [Act.put, List.setIfInBounds_toArray, List.set_cons_zero, List.set_cons_succ]
        refine takeL (i := 3) (v := ?_) rfl (by kernel_rfl) (by kernel_rfl) (by kernel_rfl) (fun _ _ _ h => h) (Or.inl ⟨by rfl, ?_⟩) (by assumption) ?_
        rotate_left
        focus (intro w hSw; go_simp; try with_reducible rfl)
        try simp only [Act.put, List.setIfInBounds_toArray, List.set_cons_zero, List.set_cons_succ]
        refine callL2 (i := 4) (j := 10) (by kernel_rfl) rfl rfl (fun K hQ => ?_) (fun K hQ => ?_)
        · go_simp
          refine hQ.out _ _ kc (fun hHeld => ?_)
          clear hQ
          try simp only [Act.put, List.setIfInBounds_toArray, List.set_cons_zero, List.set_cons_succ]
          refine takeL (i := 5) (v := ?_) rfl (by kernel_rfl) (by kernel_rfl) (by kernel_rfl) (fun _ _ _ h => h) (Or.inl ⟨by rfl, ?_⟩) (by assumption) ?_
          rotate_left
          focus (intro w hSw; go_simp; try with_reducible rfl)
          try simp only [Act.put, List.setIfInBounds_toArray, List.set_cons_zero, List.set_cons_succ]
          refine callL (i := 10) (by kernel_rfl) rfl (fun K hQ => ?_)
          go_simp
          go_at_call 33
          with_reducible refine (HDy.out X1).mono ?_
          rintro e X2 ⟨t2, rfl, ht2, hb2⟩
          have HX := hid (HX.out.trans (hb2.mono HX.out.size))
          have kc : X2.cell? ⟨b, off + j, none⟩ = some (.int .i64 y) := (hb2.cell (p := ⟨b, off + j, none⟩) hbx).trans kc
          have hbx : b < X2.heap.size := Nat.lt_of_lt_of_le hbx hb2.size
          obtain ⟨C2, hC2⟩ : ∃ C2, C2 = C1 ++ t2 := ⟨_, rfl⟩
          have hC2s : C2.size ≤ 5 + 8 * (j + 1) := by rw [hC2, ByteArray.size_append]; omega
          have ha2 : ∀ W, (Op.stringOp .add C1 t2).run Tryz.prog W = .ok (.string C2) W := fun W => by rw [hC2]; exact add_any (by omega) (by omega) W
          clear hC2
          have kz : X2.cell? ⟨X0.heap.size, j, none⟩ = some (.string sg) := (hb2.cell (p := ⟨X0.heap.size, j, none⟩) hkz).trans kz
          have hkz : X0.heap.size < X2.heap.size := Nat.lt_of_lt_of_le hkz hb2.size
          clear hb2
          refine hQ.out _ _ kc (fun hHeld => ?_)
          clear hQ
          try simp only [Act.put, List.setIfInBounds_toArray, List.set_cons_zero, List.set_cons_succ]
          refine takeL (i := 11) (v := ?_) rfl (by kernel_rfl) (by kernel_rfl) (by kernel_rfl) (fun _ _ _ h => h) (Or.inl ⟨by rfl, ?_⟩) (by assumption) ?_
          rotate_left
          focus (intro w hSw; go_simp; try with_reducible rfl)
          try simp only [Act.put, List.setIfInBounds_toArray, List.set_cons_zero, List.set_cons_succ]
          refine takeL (i := 12) (v := ?_) rfl (by kernel_rfl) (by kernel_rfl) (by kernel_rfl) (fun _ _ _ h => h) (Or.inl ⟨by rfl, ?_⟩) (by assumption) ?_
          rotate_left
          focus (intro w hSw; go_simp; try with_reducible rfl)
          try simp only [Act.put, List.setIfInBounds_toArray, List.set_cons_zero, List.set_cons_succ]
          refine wpAnyH_done (by kernel_rfl) ?_ _
          clear hHeld
          have HZ2 := hid (HZ.out.trans (HX.out.mono HZ.out.size))
          clear HX HZ ha1 ha2 hcs
          go_wp2_with fail
          refine ⟨⟨j + 1, C2, hlt, by simp, rfl, hC2s, HZ2⟩, by simp [intOf]; omega⟩
        · go_simp
          go_at_call 33
          with_reducible refine (HDy.out X1).mono ?_
          rintro e X3 ⟨t2, rfl, ht2, hb2⟩
          have HX := hid (HX.out.trans (hb2.mono HX.out.size))
          have kc : X3.cell? ⟨b, off + j, none⟩ = some (.int .i64 y) := (hb2.cell (p := ⟨b, off + j, none⟩) hbx).trans kc
          have hbx : b < X3.heap.size := Nat.lt_of_lt_of_le hbx hb2.size
          obtain ⟨C2, hC2⟩ : ∃ C2, C2 = C1 ++ t2 := ⟨_, rfl⟩
          have hC2s : C2.size ≤ 5 + 8 * (j + 1) := by rw [hC2, ByteArray.size_append]; omega
          have ha2 : ∀ W, (Op.stringOp .add C1 t2).run Tryz.prog W = .ok (.string C2) W := fun W => by rw [hC2]; exact add_any (by omega) (by omega) W
          clear hC2
          have kz : X3.cell? ⟨X0.heap.size, j, none⟩ = some (.string sg) := (hb2.cell (p := ⟨X0.heap.size, j, none⟩) hkz).trans kz
          have hkz : X0.heap.size < X3.heap.size := Nat.lt_of_lt_of_le hkz hb2.size
          clear hb2
          refine hQ.out _ _ kc (fun hHeld => ?_)
          clear hQ
          try simp only [Act.put, List.setIfInBounds_toArray, List.set_cons_zero, List.set_cons_succ]
          refine callL (i := 4) (by kernel_rfl) rfl (fun K hQ => ?_)
          go_simp
          refine hQ.out _ _ kc (fun hHeld => ?_)
          clear hQ
          try simp only [Act.put, List.setIfInBounds_toArray, List.set_cons_zero, List.set_cons_succ]
          refine takeL (i := 5) (v := ?_) rfl (by kernel_rfl) (by kernel_rfl) (by kernel_rfl) (fun _ _ _ h => h) (Or.inl ⟨by rfl, ?_⟩) (by assumption) ?_
          rotate_left
          focus (intro w hSw; go_simp; try with_reducible rfl)
          try simp only [Act.put, List.setIfInBounds_toArray, List.set_cons_zero, List.set_cons_succ]
          refine takeL (i := 11) (v := ?_) rfl (by kernel_rfl) (by kernel_rfl) (by kernel_rfl) (fun _ _ _ h => h) (Or.inl ⟨by rfl, ?_⟩) (by assumption) ?_
          rotate_left
          focus (intro w hSw; go_simp; try with_reducible rfl)
          try simp only [Act.put, List.setIfInBounds_toArray, List.set_cons_zero, List.set_cons_succ]
          refine takeL (i := 12) (v := ?_) rfl (by kernel_rfl) (by kernel_rfl) (by kernel_rfl) (fun _ _ _ h => h) (Or.inl ⟨by rfl, ?_⟩) (by assumption) ?_
          rotate_left
          focus (intro w hSw; go_simp; try with_reducible rfl)
          try simp only [Act.put, List.setIfInBounds_toArray, List.set_cons_zero, List.set_cons_succ]
          refine wpAnyH_done (by kernel_rfl) ?_ _
          clear hHeld
          have HZ2 := hid (HZ.out.trans (HX.out.mono HZ.out.size))
          clear HX HZ ha1 ha2 hcs
          go_wp2_with fail
          refine ⟨⟨j + 1, C2, hlt, by simp, rfl, hC2s, HZ2⟩, by simp [intOf]; omega⟩
      · go_simp
        go_at_call 33
        with_reducible refine (HDy.out X0).mono ?_
        rintro e X4 ⟨t2, rfl, ht2, hb2⟩
        have HX := hid (HX.out.trans (hb2.mono HX.out.size))
        have kc : X4.cell? ⟨b, off + j, none⟩ = some (.int .i64 y) := (hb2.cell (p := ⟨b, off + j, none⟩) hbx).trans kc
        have hbx : b < X4.heap.size := Nat.lt_of_lt_of_le hbx hb2.size
        obtain ⟨C2, hC2⟩ : ∃ C2, C2 = C1 ++ t2 := ⟨_, rfl⟩
        have hC2s : C2.size ≤ 5 + 8 * (j + 1) := by rw [hC2, ByteArray.size_append]; omega
        have ha2 : ∀ W, (Op.stringOp .add C1 t2).run Tryz.prog W = .ok (.string C2) W := fun W => by rw [hC2]; exact add_any (by omega) (by omega) W
        clear hC2
        clear hb2
        refine hQ.out _ _ kc (fun hHeld => ?_)
        clear hQ
        try simp only [Act.put, List.setIfInBounds_toArray, List.set_cons_zero, List.set_cons_succ]
        refine callL (i := 1) (by kernel_rfl) rfl (fun K hQ => ?_)
        go_simp
        generalize hx : World.alloc X4 _ = X5
        have kz : X5.cell? ⟨X4.heap.size, j, none⟩ = some (.string sg) := by subst hx; exact hcs X4
        have hkz : X4.heap.size < X5.heap.size := by subst hx; simp
        have HX : Hid (Below xw.heap.size xw X5) := by subst hx; exact hid (sg_alloc HX.out _)
        have kc : X5.cell? ⟨b, off + j, none⟩ = some (.int .i64 y) := by subst hx; exact (World.cell?_alloc_lt _ _ _ hbx).trans kc
        have hbx : b < X5.heap.size := Nat.lt_trans hbx (by subst hx; simp)
        clear hx
        refine hQ.out _ _ kc (fun hHeld => ?_)
        clear hQ
        try simp only [Act.put, List.setIfInBounds_toArray, List.set_cons_zero, List.set_cons_succ]
        refine takeL (i := 3) (v := ?_) rfl (by kernel_rfl) (by kernel_rfl) (by kernel_rfl) (fun _ _ _ h => h) (Or.inl ⟨by rfl, ?_⟩) (by assumption) ?_
        rotate_left
        focus (intro w hSw; go_simp; try with_reducible rfl)
        try simp only [Act.put, List.setIfInBounds_toArray, List.set_cons_zero, List.set_cons_succ]
        refine callL (i := 4) (by kernel_rfl) rfl (fun K hQ => ?_)
        go_simp
        refine hQ.out _ _ kc (fun hHeld => ?_)
        clear hQ
        try simp only [Act.put, List.setIfInBounds_toArray, List.set_cons_zero, List.set_cons_succ]
        refine takeL (i := 5) (v := ?_) rfl (by kernel_rfl) (by kernel_rfl) (by kernel_rfl) (fun _ _ _ h => h) (Or.inl ⟨by rfl, ?_⟩) (by assumption) ?_
        rotate_left
        focus (intro w hSw; go_simp; try with_reducible rfl)
        try simp only [Act.put, List.setIfInBounds_toArray, List.set_cons_zero, List.set_cons_succ]
        refine takeL (i := 11) (v := ?_) rfl (by kernel_rfl) (by kernel_rfl) (by kernel_rfl) (fun _ _ _ h => h) (Or.inl ⟨by rfl, ?_⟩) (by assumption) ?_
        rotate_left
        focus (intro w hSw; go_simp; try with_reducible rfl)
        try simp only [Act.put, List.setIfInBounds_toArray, List.set_cons_zero, List.set_cons_succ]
        refine takeL (i := 12) (v := ?_) rfl (by kernel_rfl) (by kernel_rfl) (by kernel_rfl) (fun _ _ _ h => h) (Or.inl ⟨by rfl, ?_⟩) (by assumption) ?_
        rotate_left
        focus (intro w hSw; go_simp; try with_reducible rfl)
        try simp only [Act.put, List.setIfInBounds_toArray, List.set_cons_zero, List.set_cons_succ]
        refine wpAnyH_done (by kernel_rfl) ?_ _
        clear hHeld
        have HZ2 := hid (HZ.out.trans (HX.out.mono HZ.out.size))
        clear HX HZ ha1 ha2 hcs
        go_wp2_with fail
        refine ⟨⟨j + 1, C2, hlt, by simp, rfl, hC2s, HZ2⟩, by simp [intOf]; omega⟩
    · obtain rfl : j = ls.length := by omega
      have HB4 := hid (HB3.out.trans (HZ.out.mono HB3.out.size))
      have hts : t.size ≤ 30 := by omega
      have hf1 := hid (hfin.out t xw (by omega) HB4.out)
      have hf2 := hid (hfin.out (t ++ ⟨#[41]⟩) xw (by rw [ByteArray.size_append]; have h9 : (⟨#[41]⟩ : ByteArray).size = 1 := rfl; omega) HB4.out)
      have hcase : ls.length = 0 ∨ ls.length = 1 ∨ ls.length = 2 ∨ ls.length = 3 := by omega
      clear HD HZ HI Hrg HB3 HB4 hfin hle hmx hln hlt hj ht
      generalize ls.length = m at *
      rcases hcase with rfl | rfl | rfl | rfl
      · go_wp2_with fail
        go_ret
        exact hf1.out
      all_goals
        go_wp2_with fail
        go_ret
        exact hf2.out

set_option maxRecDepth 100000 in
set_option maxHeartbeats 16000000 in
theorem text_kidsR (d : Nat) (ih : RTxAt d) (k : Int) (l : List Fm) (hk : isFrm k) (hl : okL d l) (hln : l.length = frmK k) (hs : 1 + Fm.sizeL l ≤ 200) (a : Option Addr) (cap : Nat) (w : World) (hrow : FmRow w (In_ w) a l.length cap l) :
    Calls Tryz.prog 16 #[.agg #[.int .i64 k, .int .i64 0, .int .i64 0, .int .i64 0, .int .i64 0, .slice a l.length cap]] w (TxP (.mk k Pr.zero l) w) := by
  have hk12 : 1 ≤ k ∧ k ≤ 12 := by unfold isFrm at hk; omega
  have hk3 : (k == 3) = false := by simpa using hk.ne
  have hl2 : l.length ≤ 2 := by rw [hln]; exact frmK_le k
  have hle := hrow.le
  have hmx := hrow.mx
  unfold maxLen at hmx
  have hS := frm_len k
  obtain ⟨S0, hS0⟩ : ∃ S0 : ByteArray, (⟨(frmN k).toArray⟩ : ByteArray) = S0 := ⟨_, rfl⟩
  have hS2 : S0.size ≤ 7 := by rw [← hS0, ← data_len]; simpa using hS
  have HW : Hid (∀ W, Calls Tryz.prog 30 #[.int .i64 k] W fun e w' => e = .returned (.string S0) ∧ Below W.heap.size W w') := by subst hS0; exact hid (rword_any k hk12)
  have Hrow : Hid (∀ x, Below w.heap.size w x → FmRow x (In_ x) a l.length cap l) := hid fun x hb => (hrow.keep fun b o hlt => hb.cell (p := ⟨b, o, none⟩) hlt).widen fun b hlt => Nat.lt_of_lt_of_le hlt hb.size
  have Hih : Hid (∀ (j : Nat) (hj : j < l.length) (b : Option Addr) (c : Nat) (x : World), FmIn x (In_ x) (fmC l[j].kind l[j].prop b l[j].kids.length c) l[j] → Calls Tryz.prog 16 #[.agg #[.int .i64 l[j].kind, .int .i64 l[j].prop.k, .int .i64 l[j].prop.t, .int .i64 l[j].prop.a, .int .i64 l[j].prop.n, .slice b l[j].kids.length c]] x (TxP l[j] x)) :=
    hid fun j hj b c x hx => ih l[j] b c x (okL_mem hl _ (List.getElem_mem hj)) (by have := kid_size hj; omega) hx
  have Hsz := hid (fun j => sizeL_take_le l j)
  have Hst := hid (fun (j : Nat) (hj : j < l.length) => sizeL_take hj)
  have Hs := hid hs
  have hfin : Hid (∀ (t : ByteArray) W, t.size ≤ 13 + 40 * Fm.sizeL l → Below w.heap.size w W → TxP (.mk k Pr.zero l) w (.returned (.string t)) W) := hid fun t W h1 h2 => ⟨t, rfl, by rw [Fm.size_eq]; omega, h2⟩
  clear hk hk12 hS hS0 hl hln hs hrow ih
  go_enter Tryz.func16, Tryz.ntmps16
  go_upto_region 1 with fail
  generalize hW : World.alloc w _ = W0
  have HB0 : Hid (Below w.heap.size w W0) := by subst hW; exact hid ((Below.refl _ _).alloc (Nat.le_refl _) _)
  have HBx : Hid (W0.heap[w.heap.size]? = some (fmO k Pr.zero (.slice a l.length cap))) := by subst hW; exact hid (alloc_at rfl)
  clear hW
  obtain ⟨z9, zf, z0, z1, z2, z3, z4, z5⟩ := fmO_cells HBx.out
  go_upto_region 13 with (first
    | (go_at_call 30
       with_reducible refine (HW.out W0).mono ?_
       rintro e W1 ⟨rfl, hb⟩
       have HB1 := hid (HB0.out.trans (hb.mono HB0.out.size))
       have HBx1 := hid ((hb.block _ z9).trans HBx.out)
       obtain ⟨z9, zf, z0, z1, z2, z3, z4, z5⟩ := fmO_cells HBx1.out
       clear hb)
    | fail)
  clear z9 zf z0 z1 z2 z3 z4 z5 HB0 HBx HW hk3
  go_loopw [3, 6] (fun sv iv wr => ∃ (j : Nat) (t : ByteArray), j ≤ l.length ∧ iv = .int .i64 j ∧ sv = .string t ∧ t.size ≤ 8 + 2 * j + 40 * Fm.sizeL (l.take j) ∧ Hid (Below w.heap.size w wr) ∧ Hid (wr.heap[w.heap.size]? = some (fmO k Pr.zero (.slice a l.length cap)))) (fun _ iv _ => l.length - (intOf iv).toNat)
  case atStart => exact ⟨0, S0, Nat.zero_le _, rfl, rfl, by omega, HB1, HBx1⟩
  case round =>
    rename World => xw
    obtain ⟨j, t, hj, rfl, rfl, ht, HZ, HBz⟩ := hrel
    obtain ⟨z9, zf, z0, z1, z2, z3, z4, z5⟩ := fmO_cells HBz.out
    by_cases hlt : j < l.length
    · obtain ⟨b, off, ka, kc, rfl, hb, hcl, -, hF⟩ := (Hrow.out xw HZ.out).at_ j hlt
      have hbx : b < xw.heap.size := hb
      have HCk : Hid (∀ x, Below xw.heap.size xw x → Calls Tryz.prog 16 #[.agg #[.int .i64 l[j].kind, .int .i64 l[j].prop.k, .int .i64 l[j].prop.t, .int .i64 l[j].prop.a, .int .i64 l[j].prop.n, .slice ka l[j].kids.length kc]] x fun e w' => ∃ t : ByteArray, e = .returned (.string t) ∧ t.size ≤ 40 * l[j].size ∧ Below x.heap.size x w') :=
        hid fun x hb => Hih.out j hlt ka kc x ((hF.keep fun b o hlt => hb.cell (p := ⟨b, o, none⟩) hlt).widen fun b hlt => Nat.lt_of_lt_of_le hlt hb.size)
      have hst := Hst.out j hlt
      have hsz := Hsz.out (j + 1)
      have hs2 := Hs.out
      generalize l[j] = g at *
      have hgs : t.size + 2 + 40 * g.size ≤ 100000 := by omega
      have hgs2 : 8 + 2 * j + 40 * Fm.sizeL (l.take j) + 2 + 40 * g.size ≤ 8 + 2 * (j + 1) + 40 * Fm.sizeL (l.take (j + 1)) := by omega
      have Hgs2 := hid hgs2
      generalize Fm.sizeL (l.take j) = sj at *
      generalize g.size = gs at *
      generalize g.kind = gk at *
      generalize g.prop.k = pk2 at *
      generalize g.prop.t = pt2 at *
      generalize g.prop.a = pa2 at *
      generalize g.prop.n = pn2 at *
      generalize g.kids.length = gl at *
      have HS : Hid (∀ x, Below xw.heap.size xw x → x.cell? ⟨w.heap.size, 5, none⟩ = some (.slice (some ⟨b, off, none⟩) l.length cap) ∧ x.cell? ⟨b, off + j * 6, none⟩ = some (.int .i64 gk) ∧ x.cell? ⟨b, off + j * 6 + 1, none⟩ = some (.int .i64 pk2) ∧ x.cell? ⟨b, off + j * 6 + 2, none⟩ = some (.int .i64 pt2) ∧
          x.cell? ⟨b, off + j * 6 + 3, none⟩ = some (.int .i64 pa2) ∧ x.cell? ⟨b, off + j * 6 + 4, none⟩ = some (.int .i64 pn2) ∧ x.cell? ⟨b, off + j * 6 + 5, none⟩ = some (.slice ka gl kc)) := hid fun x hx => by
        have hc : ∀ o, x.cell? ⟨b, o, none⟩ = xw.cell? ⟨b, o, none⟩ := fun o => hx.cell (p := ⟨b, o, none⟩) hbx
        obtain ⟨c0, c1, c2, c3, c4, c5⟩ := hcl
        exact ⟨(hx.cell (p := ⟨w.heap.size, 5, none⟩) z9).trans z5, (hc _).trans c0, (hc _).trans c1, (hc _).trans c2, (hc _).trans c3, (hc _).trans c4, (hc _).trans c5⟩
      obtain ⟨sg, hsg⟩ : ∃ sg, sg = sgA j := ⟨_, rfl⟩
      have hsz2 := sgA_size j
      have hj3 : j = 0 ∨ j = 1 := by omega
      have hcs : ∀ W : World, (W.alloc (.cells #[.string ⟨#[40]⟩, .string ⟨#[44, 32]⟩] 9)).cell? ⟨W.heap.size, j, none⟩ = some (.string sg) := fun W => by
        rw [hsg]
        rcases hj3 with rfl | rfl <;> go_simp <;> rfl
      rw [← hsg] at hsz2
      obtain ⟨C1, hC1⟩ : ∃ C1, C1 = t ++ sg := ⟨_, rfl⟩
      have hC1s : C1.size ≤ t.size + 2 := by rw [hC1, ByteArray.size_append]; omega
      have ha1 : ∀ W, (Op.stringOp .add t sg).run Tryz.prog W = .ok (.string C1) W := fun W => by rw [hC1]; exact add_any (by omega) (by omega) W
      have j0 : (0 : Int) ≤ j := by omega
      have j1 : (j : Int) < 2 := by omega
      have j2 : (j : Int) < l.length := by omega
      have j3 : j < 2 := by omega
      have d1 : decide ((j : Int) < (l.length : Int)) = true := decide_eq_true j2
      clear hsg hC1 hj3 hcl hF hst hsz hs2 hgs2 hb
      go_upto_region 15 with fail
      have HX : Hid (Below xw.heap.size xw xw.drew) := hid (Below.refl _ _).drew
      obtain ⟨y5, c0, c1, c2, c3, c4, c5⟩ := HS.out xw.drew HX.out
      refine wp_region_held_drew (S := fun W => W.cell? ⟨w.heap.size, 5, none⟩ = some (.slice (some ⟨b, off, none⟩) l.length cap) ∧ W.cell? ⟨b, off + j * 6, none⟩ = some (.int .i64 gk) ∧ W.cell? ⟨b, off + j * 6 + 1, none⟩ = some (.int .i64 pk2) ∧ W.cell? ⟨b, off + j * 6 + 2, none⟩ = some (.int .i64 pt2) ∧
          W.cell? ⟨b, off + j * 6 + 3, none⟩ = some (.int .i64 pa2) ∧ W.cell? ⟨b, off + j * 6 + 4, none⟩ = some (.int .i64 pn2) ∧ W.cell? ⟨b, off + j * 6 + 5, none⟩ = some (.slice ka gl kc)) (by kernel_rfl) ⟨y5, c0, c1, c2, c3, c4, c5⟩ (fun hHeld => ?_)
      clear z9 zf z0 z1 z2 z3 z4 z5
      generalize World.drew xw = X0 at HX y5 c0 c1 c2 c3 c4 c5 hHeld ⊢
      refine takeL (i := 0) (v := ?_) rfl (by kernel_rfl) (by kernel_rfl) (by kernel_rfl) (fun _ _ _ h => h) (Or.inl ⟨by rfl, ?_⟩) (by assumption) ?_
      rotate_left
      focus (intro w hSw; go_simp; try with_reducible rfl)
      try simp only [Act.put, List.setIfInBounds_toArray, List.set_cons_zero, List.set_cons_succ]
      refine takeL (i := 2) (v := ?_) rfl (by kernel_rfl) (by kernel_rfl) (by kernel_rfl) (fun _ _ _ h => h) (Or.inl ⟨by rfl, ?_⟩) (by assumption) ?_
      rotate_left
      focus (intro w hSw; go_simp; try with_reducible rfl)
      try simp only [Act.put, List.setIfInBounds_toArray, List.set_cons_zero, List.set_cons_succ]
      refine takeL (i := 6) (v := ?_) rfl (by kernel_rfl) (by kernel_rfl) (by kernel_rfl) (fun _ _ _ h => h) (Or.inl ⟨by rfl, ?_⟩) (by assumption) ?_
      rotate_left
      focus (intro w hSw; go_simp; try with_reducible rfl)
      try simp only [Act.put, List.setIfInBounds_toArray, List.set_cons_zero, List.set_cons_succ]
      refine takeL (i := 7) (v := ?_) rfl (by kernel_rfl) (by kernel_rfl) (by kernel_rfl) (fun _ _ _ h => h) (Or.inl ⟨by rfl, ?_⟩) (by assumption) ?_
      rotate_left
      focus (intro w hSw; go_simp; try with_reducible rfl)
      try simp only [Act.put, List.setIfInBounds_toArray, List.set_cons_zero, List.set_cons_succ]
      refine takeL (i := 8) (v := ?_) rfl (by kernel_rfl) (by kernel_rfl) (by kernel_rfl) (fun _ _ _ h => h) (Or.inl ⟨by rfl, ?_⟩) (by assumption) ?_
      rotate_left
      focus (intro w hSw; go_simp; try with_reducible rfl)
      try simp only [Act.put, List.setIfInBounds_toArray, List.set_cons_zero, List.set_cons_succ]
      refine takeL (i := 9) (v := ?_) rfl (by kernel_rfl) (by kernel_rfl) (by kernel_rfl) (fun _ _ _ h => h) (Or.inl ⟨by rfl, ?_⟩) (by assumption) ?_
      rotate_left
      focus (intro w hSw; go_simp; try with_reducible rfl)
      try simp only [Act.put, List.setIfInBounds_toArray, List.set_cons_zero, List.set_cons_succ]
      refine takeL (i := 10) (v := ?_) rfl (by kernel_rfl) (by kernel_rfl) (by kernel_rfl) (fun _ _ _ h => h) (Or.inl ⟨by rfl, ?_⟩) (by assumption) ?_
      rotate_left
      focus (intro w hSw; go_simp; try with_reducible rfl)
      try simp only [Act.put, List.setIfInBounds_toArray, List.set_cons_zero, List.set_cons_succ]
      refine callL2 (i := 1) (j := 11) (by kernel_rfl) rfl rfl (fun K hQ => ?_) (fun K hQ => ?_)
      · go_simp
        generalize hx : World.alloc X0 _ = X6
        have kz : X6.cell? ⟨X0.heap.size, j, none⟩ = some (.string sg) := by subst hx; exact hcs X0
        have hkz : X0.heap.size < X6.heap.size := by subst hx; simp
        have HX : Hid (Below xw.heap.size xw X6) := by subst hx; exact hid (sg_alloc HX.out _)
        obtain ⟨y5, c0, c1, c2, c3, c4, c5⟩ := HS.out X6 HX.out
        clear hx
        refine hQ.out _ _ ⟨y5, c0, c1, c2, c3, c4, c5⟩ (fun hHeld => ?_)
        clear hQ
        try simp only [Act.put, List.setIfInBounds_toArray, List.set_cons_zero, List.set_cons_succ]
        refine takeL (i := 3) (v := ?_) rfl (by kernel_rfl) (by kernel_rfl) (by kernel_rfl) (fun _ _ _ h => h) (Or.inl ⟨by rfl, ?_⟩) (by assumption) ?_
        rotate_left
        focus (intro w hSw; go_simp; try with_reducible rfl)
        try simp only [Act.put, List.setIfInBounds_toArray, List.set_cons_zero, List.set_cons_succ]
        refine callL2 (i := 4) (j := 11) (by kernel_rfl) rfl rfl (fun K hQ => ?_) (fun K hQ => ?_)
        · go_simp
          refine hQ.out _ _ ⟨y5, c0, c1, c2, c3, c4, c5⟩ (fun hHeld => ?_)
          clear hQ
          try simp only [Act.put, List.setIfInBounds_toArray, List.set_cons_zero, List.set_cons_succ]
          refine takeL (i := 5) (v := ?_) rfl (by kernel_rfl) (by kernel_rfl) (by kernel_rfl) (fun _ _ _ h => h) (Or.inl ⟨by rfl, ?_⟩) (by assumption) ?_
          rotate_left
          focus (intro w hSw; go_simp; try with_reducible rfl)
          try simp only [Act.put, List.setIfInBounds_toArray, List.set_cons_zero, List.set_cons_succ]
          refine callL (i := 11) (by kernel_rfl) rfl (fun K hQ => ?_)
          go_simp
          go_at_call 16
          with_reducible refine (HCk.out X6 HX.out).mono ?_
          rintro e X7 ⟨t2, rfl, ht2, hb2⟩
          have HX := hid (HX.out.trans (hb2.mono HX.out.size))
          obtain ⟨y5, c0, c1, c2, c3, c4, c5⟩ := HS.out X7 HX.out
          obtain ⟨C2, hC2⟩ : ∃ C2, C2 = C1 ++ t2 := ⟨_, rfl⟩
          have hC2s : Hid (C2.size ≤ 8 + 2 * (j + 1) + 40 * Fm.sizeL (l.take (j + 1))) := hid (by rw [hC2, ByteArray.size_append]; have := Hgs2.out; omega)
          have ha2 : ∀ W, (Op.stringOp .add C1 t2).run Tryz.prog W = .ok (.string C2) W := fun W => by rw [hC2]; exact add_any (by omega) (by omega) W
          clear hC2
          have kz : X7.cell? ⟨X0.heap.size, j, none⟩ = some (.string sg) := (hb2.cell (p := ⟨X0.heap.size, j, none⟩) hkz).trans kz
          have hkz : X0.heap.size < X7.heap.size := Nat.lt_of_lt_of_le hkz hb2.size
          clear hb2
          refine hQ.out _ _ ⟨y5, c0, c1, c2, c3, c4, c5⟩ (fun hHeld => ?_)
          clear hQ
          try simp only [Act.put, List.setIfInBounds_toArray, List.set_cons_zero, List.set_cons_succ]
          refine takeL (i := 12) (v := ?_) rfl (by kernel_rfl) (by kernel_rfl) (by kernel_rfl) (fun _ _ _ h => h) (Or.inl ⟨by rfl, ?_⟩) (by assumption) ?_
          rotate_left
          focus (intro w hSw; go_simp; try with_reducible rfl)
          try simp only [Act.put, List.setIfInBounds_toArray, List.set_cons_zero, List.set_cons_succ]
          refine takeL (i := 13) (v := ?_) rfl (by kernel_rfl) (by kernel_rfl) (by kernel_rfl) (fun _ _ _ h => h) (Or.inl ⟨by rfl, ?_⟩) (by assumption) ?_
          rotate_left
          focus (intro w hSw; go_simp; try with_reducible rfl)
          try simp only [Act.put, List.setIfInBounds_toArray, List.set_cons_zero, List.set_cons_succ]
          refine wpAnyH_done (by kernel_rfl) ?_ _
          clear hHeld
          have HZ2 := hid (HZ.out.trans (HX.out.mono HZ.out.size))
          have HBz2 := hid ((HX.out.block w.heap.size (Array.getElem?_eq_some_iff.1 HBz.out).1).trans HBz.out)
          clear HX HZ ha1 ha2 hcs HBz y5 c0 c1 c2 c3 c4 c5
          go_wp2_with fail
          refine ⟨⟨j + 1, C2, hlt, by simp, rfl, hC2s.out, HZ2, HBz2⟩, by simp [intOf]; omega⟩
        · go_simp
          go_at_call 16
          with_reducible refine (HCk.out X6 HX.out).mono ?_
          rintro e X8 ⟨t2, rfl, ht2, hb2⟩
          have HX := hid (HX.out.trans (hb2.mono HX.out.size))
          obtain ⟨y5, c0, c1, c2, c3, c4, c5⟩ := HS.out X8 HX.out
          obtain ⟨C2, hC2⟩ : ∃ C2, C2 = C1 ++ t2 := ⟨_, rfl⟩
          have hC2s : Hid (C2.size ≤ 8 + 2 * (j + 1) + 40 * Fm.sizeL (l.take (j + 1))) := hid (by rw [hC2, ByteArray.size_append]; have := Hgs2.out; omega)
          have ha2 : ∀ W, (Op.stringOp .add C1 t2).run Tryz.prog W = .ok (.string C2) W := fun W => by rw [hC2]; exact add_any (by omega) (by omega) W
          clear hC2
          have kz : X8.cell? ⟨X0.heap.size, j, none⟩ = some (.string sg) := (hb2.cell (p := ⟨X0.heap.size, j, none⟩) hkz).trans kz
          have hkz : X0.heap.size < X8.heap.size := Nat.lt_of_lt_of_le hkz hb2.size
          clear hb2
          refine hQ.out _ _ ⟨y5, c0, c1, c2, c3, c4, c5⟩ (fun hHeld => ?_)
          clear hQ
          try simp only [Act.put, List.setIfInBounds_toArray, List.set_cons_zero, List.set_cons_succ]
          refine callL (i := 4) (by kernel_rfl) rfl (fun K hQ => ?_)
          go_simp
          refine hQ.out _ _ ⟨y5, c0, c1, c2, c3, c4, c5⟩ (fun hHeld => ?_)
          clear hQ
          try simp only [Act.put, List.setIfInBounds_toArray, List.set_cons_zero, List.set_cons_succ]
          refine takeL (i := 5) (v := ?_) rfl (by kernel_rfl) (by kernel_rfl) (by kernel_rfl) (fun _ _ _ h => h) (Or.inl ⟨by rfl, ?_⟩) (by assumption) ?_
          rotate_left
          focus (intro w hSw; go_simp; try with_reducible rfl)
          try simp only [Act.put, List.setIfInBounds_toArray, List.set_cons_zero, List.set_cons_succ]
          refine takeL (i := 12) (v := ?_) rfl (by kernel_rfl) (by kernel_rfl) (by kernel_rfl) (fun _ _ _ h => h) (Or.inl ⟨by rfl, ?_⟩) (by assumption) ?_
          rotate_left
          focus (intro w hSw; go_simp; try with_reducible rfl)
          try simp only [Act.put, List.setIfInBounds_toArray, List.set_cons_zero, List.set_cons_succ]
          refine takeL (i := 13) (v := ?_) rfl (by kernel_rfl) (by kernel_rfl) (by kernel_rfl) (fun _ _ _ h => h) (Or.inl ⟨by rfl, ?_⟩) (by assumption) ?_
          rotate_left
          focus (intro w hSw; go_simp; try with_reducible rfl)
          try simp only [Act.put, List.setIfInBounds_toArray, List.set_cons_zero, List.set_cons_succ]
          refine wpAnyH_done (by kernel_rfl) ?_ _
          clear hHeld
          have HZ2 := hid (HZ.out.trans (HX.out.mono HZ.out.size))
          have HBz2 := hid ((HX.out.block w.heap.size (Array.getElem?_eq_some_iff.1 HBz.out).1).trans HBz.out)
          clear HX HZ ha1 ha2 hcs HBz y5 c0 c1 c2 c3 c4 c5
          go_wp2_with fail
          refine ⟨⟨j + 1, C2, hlt, by simp, rfl, hC2s.out, HZ2, HBz2⟩, by simp [intOf]; omega⟩
      · go_simp
        go_at_call 16
        with_reducible refine (HCk.out X0 HX.out).mono ?_
        rintro e X9 ⟨t2, rfl, ht2, hb2⟩
        have HX := hid (HX.out.trans (hb2.mono HX.out.size))
        obtain ⟨y5, c0, c1, c2, c3, c4, c5⟩ := HS.out X9 HX.out
        obtain ⟨C2, hC2⟩ : ∃ C2, C2 = C1 ++ t2 := ⟨_, rfl⟩
        have hC2s : Hid (C2.size ≤ 8 + 2 * (j + 1) + 40 * Fm.sizeL (l.take (j + 1))) := hid (by rw [hC2, ByteArray.size_append]; have := Hgs2.out; omega)
        have ha2 : ∀ W, (Op.stringOp .add C1 t2).run Tryz.prog W = .ok (.string C2) W := fun W => by rw [hC2]; exact add_any (by omega) (by omega) W
        clear hC2
        clear hb2
        refine hQ.out _ _ ⟨y5, c0, c1, c2, c3, c4, c5⟩ (fun hHeld => ?_)
        clear hQ
        try simp only [Act.put, List.setIfInBounds_toArray, List.set_cons_zero, List.set_cons_succ]
        refine callL (i := 1) (by kernel_rfl) rfl (fun K hQ => ?_)
        go_simp
        generalize hx : World.alloc X9 _ = X10
        have kz : X10.cell? ⟨X9.heap.size, j, none⟩ = some (.string sg) := by subst hx; exact hcs X9
        have hkz : X9.heap.size < X10.heap.size := by subst hx; simp
        have HX : Hid (Below xw.heap.size xw X10) := by subst hx; exact hid (sg_alloc HX.out _)
        obtain ⟨y5, c0, c1, c2, c3, c4, c5⟩ := HS.out X10 HX.out
        clear hx
        refine hQ.out _ _ ⟨y5, c0, c1, c2, c3, c4, c5⟩ (fun hHeld => ?_)
        clear hQ
        try simp only [Act.put, List.setIfInBounds_toArray, List.set_cons_zero, List.set_cons_succ]
        refine takeL (i := 3) (v := ?_) rfl (by kernel_rfl) (by kernel_rfl) (by kernel_rfl) (fun _ _ _ h => h) (Or.inl ⟨by rfl, ?_⟩) (by assumption) ?_
        rotate_left
        focus (intro w hSw; go_simp; try with_reducible rfl)
        try simp only [Act.put, List.setIfInBounds_toArray, List.set_cons_zero, List.set_cons_succ]
        refine callL (i := 4) (by kernel_rfl) rfl (fun K hQ => ?_)
        go_simp
        refine hQ.out _ _ ⟨y5, c0, c1, c2, c3, c4, c5⟩ (fun hHeld => ?_)
        clear hQ
        try simp only [Act.put, List.setIfInBounds_toArray, List.set_cons_zero, List.set_cons_succ]
        refine takeL (i := 5) (v := ?_) rfl (by kernel_rfl) (by kernel_rfl) (by kernel_rfl) (fun _ _ _ h => h) (Or.inl ⟨by rfl, ?_⟩) (by assumption) ?_
        rotate_left
        focus (intro w hSw; go_simp; try with_reducible rfl)
        try simp only [Act.put, List.setIfInBounds_toArray, List.set_cons_zero, List.set_cons_succ]
        refine takeL (i := 12) (v := ?_) rfl (by kernel_rfl) (by kernel_rfl) (by kernel_rfl) (fun _ _ _ h => h) (Or.inl ⟨by rfl, ?_⟩) (by assumption) ?_
        rotate_left
        focus (intro w hSw; go_simp; try with_reducible rfl)
        try simp only [Act.put, List.setIfInBounds_toArray, List.set_cons_zero, List.set_cons_succ]
        refine takeL (i := 13) (v := ?_) rfl (by kernel_rfl) (by kernel_rfl) (by kernel_rfl) (fun _ _ _ h => h) (Or.inl ⟨by rfl, ?_⟩) (by assumption) ?_
        rotate_left
        focus (intro w hSw; go_simp; try with_reducible rfl)
        try simp only [Act.put, List.setIfInBounds_toArray, List.set_cons_zero, List.set_cons_succ]
        refine wpAnyH_done (by kernel_rfl) ?_ _
        clear hHeld
        have HZ2 := hid (HZ.out.trans (HX.out.mono HZ.out.size))
        have HBz2 := hid ((HX.out.block w.heap.size (Array.getElem?_eq_some_iff.1 HBz.out).1).trans HBz.out)
        clear HX HZ ha1 ha2 hcs HBz y5 c0 c1 c2 c3 c4 c5
        go_wp2_with fail
        refine ⟨⟨j + 1, C2, hlt, by simp, rfl, hC2s.out, HZ2, HBz2⟩, by simp [intOf]; omega⟩
    · obtain rfl : j = l.length := by omega
      rw [List.take_length] at ht
      have hs2 := Hs.out
      have hts : t.size ≤ 9000 := by omega
      have hf1 := hid (hfin.out t xw (by omega) HZ.out)
      have hf2 := hid (hfin.out (t ++ ⟨#[41]⟩) xw (by rw [ByteArray.size_append]; have h9 : (⟨#[41]⟩ : ByteArray).size = 1 := rfl; omega) HZ.out)
      have hcase : l.length = 0 ∨ l.length = 1 ∨ l.length = 2 := by omega
      clear HZ Hsz Hst Hih Hrow HB1 HBz hfin hle hmx hlt hj ht hs2 Hs
      generalize l.length = m at *
      rcases hcase with rfl | rfl | rfl
      · go_wp2_with fail
        go_ret
        exact hf1.out
      all_goals
        go_wp2_with fail
        go_ret
        exact hf2.out
theorem text_all13 : ∀ d, RTxAt d
  | 0 => fun f _ _ _ h => absurd h (okD_zero f)
  | d + 1 => fun f a cap w hok hs hin => by
    obtain ⟨k, p, l⟩ := f
    simp only [Fm.kind, Fm.prop, Fm.kids] at hin ⊢
    rw [okD_succ] at hok
    obtain ⟨hok, hl⟩ := hok
    obtain ⟨a', cap', e', -, -, hrow⟩ := hin.open_
    simp only [List.cons.injEq, Value.slice.injEq, and_true, true_and] at e'
    obtain ⟨rfl, rfl⟩ := e'
    rw [Fm.size_eq] at hs
    rcases hok with ⟨rfl, hP, rfl⟩ | ⟨hk, hpz, hn⟩
    · exact text_atomR p hP a cap w
    · subst hpz
      exact text_kidsR d (text_all13 d) k l hk hl hn hs a cap w hrow
end Go.Proofs.YtogopcejapklgaaGreatDoor
