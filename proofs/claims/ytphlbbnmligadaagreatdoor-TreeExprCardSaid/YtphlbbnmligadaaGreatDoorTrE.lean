/- TreeExpr, walked. -/
import Derived.Test.YtphlbbnmligadaaGreatDoorBunO
import Derived.Test.YtphlbbnmligadaaGreatDoorBunE
import Derived.Test.YtphlbbnmligadaaGreatDoorMkP
import Derived.Test.YtphlbbnmligadaaGreatDoorBunT
import Derived.Deep.RegionHeld3
namespace Go.Proofs.YtphlbbnmligadaaGreatDoor
open Go.RowKit

/-- Two expressions in blocks of their own: one that was made, one of its parts. -/
structure YS (w1 wr : World) (u0 u1 u2 u3 v0 v1 v2 v3 : Value) (y : Ex) : Prop where
  bl : Below w1.heap.size w1 wr
  hX : wr.heap[w1.heap.size]? = some (.cells #[u0, u1, u2, u3] 44 (0, 0))
  hY : wr.heap[w1.heap.size + 1]? = some (.cells #[v0, v1, v2, v3] 44 (0, 0))
  hy : ExIn w1 (In_ w1) [v0, v1, v2, v3] y
theorem YS.put {w1 wr : World} {u0 u1 u2 u3 v0 v1 v2 v3 n0 n1 n2 n3 : Value} {y z : Ex} (h : YS w1 wr u0 u1 u2 u3 v0 v1 v2 v3 y) (hz : ExIn w1 (In_ w1) [n0, n1, n2, n3] z) :
    YS w1 ((((wr.setCell ⟨w1.heap.size + 1, 0, none⟩ n0).setCell ⟨w1.heap.size + 1, 1, none⟩ n1).setCell ⟨w1.heap.size + 1, 2, none⟩ n2).setCell ⟨w1.heap.size + 1, 3, none⟩ n3) u0 u1 u2 u3 n0 n1 n2 n3 z := by
  refine ⟨(((h.bl.setCell (by simp) _).setCell (by simp) _).setCell (by simp) _).setCell (by simp) _, ?_, by simp [World.setCell, Array.getElem?_modify, h.hY], hz⟩
  iterate 4 rw [Below.heap_setCell _ _ _ _ (by simp)]
  exact h.hX
theorem fit_kids {dom : Int} {d : Nat} {k n o : Int} {l : List Ex} (h : Ex.fit dom (d + 1) (.mk k n o l) = true) : l = [] ∨ ∃ x y, l = [x, y] ∧ x.fit dom d = true ∧ y.fit dom d = true := by
  rcases Ex.fit_open h with ⟨-, -, -, -, rfl⟩ | ⟨-, -, -, -, rfl⟩ | ⟨-, -, -, x, y, rfl, hx, hy⟩
  · exact .inl rfl
  · exact .inl rfl
  · exact .inr ⟨x, y, rfl, hx, hy⟩

set_option maxRecDepth 100000 in
set_option maxHeartbeats 16000000 in
theorem treeExpr_walk (la : Option Addr) (ln lc : Nat) (dom : Int) (at_ : Nat) (w : World) (hv : Lx.Vars w) (hl : U8s w (In_ w) la ln lc) (_hd : (Lit.int .i64 dom).wf = true) (hat : at_ < 256) :
    Calls Tryz.prog 4 #[.slice la ln lc, .int .i64 dom, .int .u8 at_] w fun e w' => e = .returned (.bool true) ∧ Below w.heap.size w w' := by
  have HV := hid hv
  have hB0 : Below w.heap.size w (w.alloc (.cells #[.slice la ln lc, .int .i64 0] 41)) := (Below.refl _ _).alloc (Nat.le_refl _) _
  have hM : Mkr (w.alloc (.cells #[.slice la ln lc, .int .i64 0] 41)) w.heap.size w.heap.size 0 := ⟨Nat.le_refl _, la, ln, lc, hl.keep fun b o hb => hB0.cell (p := ⟨b, o, none⟩) hb, heap_alloc_new w _⟩
  have hmade := hid (made_any w.heap.size w.heap.size 4 (by decide) (by decide) 4 4 0 _ rfl hM (by decide))
  have HB0 := hid hB0
  clear hl hv hM hB0
  go_enter Tryz.func4, Tryz.ntmps4
  go_wp2_with fail
  refine hmade.out.mono ?_
  rintro e w1 ⟨u0, u1, u2, u3, ⟨k, n, o, l⟩, t1, rfl, hx, hfx, -, -, hg1⟩
  have hx1 : ExIn w1 (In_ w1) [u0, u1, u2, u3] (.mk k n o l) := hx.widen fun b hb => hb.2
  obtain ⟨pa, pc, he, hpl, hpm, -⟩ := hx1.open_
  simp only [List.cons.injEq, and_true] at he
  obtain ⟨rfl, rfl, rfl, rfl⟩ := he
  have hB1 : Below w.heap.size w w1 := (HB0.out.grown hg1 (by simp) fun k hk => by cases hk; exact Nat.le_refl _)
  have HB1 := hid hB1
  have HX1 := hid hx1
  have HV1 := hid (HV.out.next hB1)
  clear hmade HB0 hx hg1 hx1 hB1 HV
  obtain ⟨W0, hW⟩ : ∃ W0, W0 = (w1.alloc (.cells #[.int .i64 k, .int .i64 n, .int .u8 o, .slice pa l.length pc] 44)).alloc (.cells #[.int .i64 k, .int .i64 n, .int .u8 o, .slice pa l.length pc] 44) := ⟨_, rfl⟩
  have hY0 : Hid (YS w1 W0 (.int .i64 k) (.int .i64 n) (.int .u8 o) (.slice pa l.length pc) (.int .i64 k) (.int .i64 n) (.int .u8 o) (.slice pa l.length pc) (.mk k n o l)) := by
    subst hW
    exact ⟨((Below.refl _ _).alloc (Nat.le_refl _) _).alloc (by simp) _, ((World.grownBy_alloc _ _ none).block _ (by simp) (by simp)).trans (heap_alloc_new w1 _), by have := heap_alloc_new (w1.alloc (.cells #[.int .i64 k, .int .i64 n, .int .u8 o, .slice pa l.length pc] 44)) (.cells #[.int .i64 k, .int .i64 n, .int .u8 o, .slice pa l.length pc] 44); simpa using this, HX1.out⟩
  have hWx := hid hW
  have hf20 : (Ex.mk k n o l).fit 4 20 = true := fit_mono 4 _ (by decide) hfx
  have Hf5 := hid hfx
  have Hf20 := hid hf20
  clear hW hfx hf20
  go_upto_region 4 with fail
  rw [← hWx.out]
  clear hWx
  go_wp2_with fail
  have h5 : IntKind.i64.wrap (at_ : Int) = (at_ : Int) := IntWalk.i64_in _ (by omega)
  obtain ⟨m5, hm5⟩ : ∃ m5 : Nat, m5 = at_ % 5 := ⟨_, rfl⟩
  have h6 : (at_ : Int) % 5 = (m5 : Int) := by omega
  have h7 : m5 ≤ 4 := by omega
  clear hm5
  go_loopw [10] (fun i wr => ∃ (q : Nat) (k' n' o' : Int) (a' : Option Addr) (c' : Nat) (l' : List Ex), q ≤ 4 ∧ i = .int .i64 q ∧ Hid (YS w1 wr (.int .i64 k) (.int .i64 n) (.int .u8 o) (.slice pa l.length pc) (.int .i64 k') (.int .i64 n') (.int .u8 o') (.slice a' l'.length c') (.mk k' n' o' l')) ∧ Hid (∃ d, d ≤ 20 ∧ (Ex.mk k' n' o' l').fit 4 d = true)) (fun i _ => 5 - (intOf i).toNat)
  case atStart => exact ⟨0, k, n, o, pa, pc, l, Nat.zero_le _, rfl, hY0, ⟨20, Nat.le_refl _, Hf20.out⟩⟩
  case round =>
    obtain ⟨q, k', n', o', a', c', l', hq, rfl, hY, hF⟩ := hrel
    have hYb := hY.out
    have b0 := hYb.bl.size
    have hY4 := hYb.hY
    have y3 : wr.cell? ⟨w1.heap.size + 1, 3, none⟩ = some (.slice a' l'.length c') := cell_of_heap hY4
    have zY : ∀ j, wr.frozen? ⟨w1.heap.size + 1, j, none⟩ = false := fun j => unfrozen hY4
    have lY : w1.heap.size + 1 < wr.heap.size := (Array.getElem?_eq_some_iff.1 hY4).1
    have hle' := hYb.hy.open_
    obtain ⟨a'', c'', he', hl1, hl2, -, -, -, hkid⟩ := hle'
    simp only [List.cons.injEq, Value.slice.injEq, true_and, and_true] at he'
    obtain ⟨rfl, rfl⟩ := he'
    unfold maxLen at hl2
    have hcase : (q < m5 ∧ ∃ x y, l' = [x, y] ∧ (∃ d, d ≤ 20 ∧ x.fit 4 d = true) ∧ (∃ d, d ≤ 20 ∧ y.fit 4 d = true)) ∨ ¬ q < m5 ∨ (q < m5 ∧ l' = []) := by
      by_cases hlt : q < m5
      · obtain ⟨d, hd, hfd⟩ := hF.out
        cases d with
        | zero => unfold Ex.fit at hfd; cases hfd
        | succ d =>
          rcases fit_kids hfd with h | ⟨x, y, h, hx, hy⟩
          · exact .inr (.inr ⟨hlt, h⟩)
          · exact .inl ⟨hlt, x, y, h, ⟨d, by omega, hx⟩, ⟨d, by omega, hy⟩⟩
      · exact .inr (.inl hlt)
    rcases hcase with ⟨hlt, x, y, rfl, hfx, hfy⟩ | hex
    · obtain ⟨b, off, u0, u1, u2, u3, v0, v1, v2, v3, rfl, hb, g0, g1, g2, g3, g4, g5, g6, g7, hx, hy⟩ := ExIn.pair hkid
      have hbl : b < w1.heap.size := hb
      have kp : ∀ j, wr.cell? ⟨b, j, none⟩ = w1.cell? ⟨b, j, none⟩ := fun j => hYb.bl.cell (p := ⟨b, j, none⟩) hbl
      have HX := hid hx
      have HY := hid hy
      obtain ⟨k1, n1, o1, l1⟩ := x
      obtain ⟨p1, c1, he1, -⟩ := hx.open_
      simp only [List.cons.injEq, and_true] at he1
      obtain ⟨rfl, rfl, rfl, rfl⟩ := he1
      obtain ⟨k2, n2, o2, l2⟩ := y
      obtain ⟨p2, c2, he2, -⟩ := hy.open_
      simp only [List.cons.injEq, and_true] at he2
      obtain ⟨rfl, rfl, rfl, rfl⟩ := he2
      rw [← kp] at g0 g1 g2 g3 g4 g5 g6 g7
      have hbl2 : b < wr.heap.size := by omega
      have hne : ¬ w1.heap.size + 1 = b := by omega
      have y0 := cell_of_heap (j := 0) hY4
      have y1 := cell_of_heap (j := 1) hY4
      have y2 := cell_of_heap (j := 2) hY4
      simp at y0 y1 y2
      have q1 : (q : Int) < m5 := by omega
      have hq5 : q = 0 ∨ q = 1 ∨ q = 2 ∨ q = 3 ∨ q = 4 := by omega
      have HFx := hid hfx
      have HFy := hid hfy
      clear hx hy kp hkid hYb hY4 hF hfx hfy hb
      rcases hq5 with rfl | rfl | rfl | rfl | rfl
      · go_wp2_with fail
        go_roundw
        case rel => exact ⟨1, k1, n1, o1, p1, c1, l1, by omega, by simp, hid (hY.out.put HX.out), HFx⟩
        case measure => simp [intOf]
      · go_wp2_with fail
        go_roundw
        case rel => exact ⟨2, k2, n2, o2, p2, c2, l2, by omega, by simp, hid (hY.out.put HY.out), HFy⟩
        case measure => simp [intOf]
      · go_wp2_with fail
        go_roundw
        case rel => exact ⟨3, k1, n1, o1, p1, c1, l1, by omega, by simp, hid (hY.out.put HX.out), HFx⟩
        case measure => simp [intOf]
      · go_wp2_with fail
        go_roundw
        case rel => exact ⟨4, k2, n2, o2, p2, c2, l2, by omega, by simp, hid (hY.out.put HY.out), HFy⟩
        case measure => simp [intOf]
      · omega
    · have hX4 := hYb.hX
      have x0 := cell_of_heap (j := 0) hX4
      have x1 := cell_of_heap (j := 1) hX4
      have x2 := cell_of_heap (j := 2) hX4
      have x3 := cell_of_heap (j := 3) hX4
      have y0 := cell_of_heap (j := 0) hY4
      have y1 := cell_of_heap (j := 1) hY4
      have y2 := cell_of_heap (j := 2) hY4
      simp at x0 x1 x2 x3 y0 y1 y2
      have lX : w1.heap.size < wr.heap.size := by omega
      have hKb : Kp w1 wr := Kp.of hYb.bl
      have hf' : (Ex.mk k' n' o' l').fit 4 20 = true := by
        obtain ⟨d, hd, hfd⟩ := hF.out
        exact fit_mono 4 _ hd hfd
      have h1 : Hid (∀ W, Kp wr W → Calls Tryz.prog 9 #[] W fun e w' => e = .returned (.bool true) ∧ Below W.heap.size W w') := fun W hW => awake_any W ((HV1.out.next hYb.bl).next hW.1)
      have h2 : Hid (∀ W, Kp wr W → Calls Tryz.prog 16 #[.agg #[.int .i64 k, .int .i64 n, .int .u8 o, .slice pa l.length pc], .int .i64 dom] W fun e w' => e = .returned (.bool ((Ex.mk k n o l).fit dom 20)) ∧ Below W.heap.size W w') := fun W hW => pExpr_any dom _ _ W (hW.ex (hKb.ex HX1.out))
      have h3 : Hid (∀ W, Kp wr W → Calls Tryz.prog 17 #[.agg #[.int .i64 k, .int .i64 n, .int .u8 o, .slice pa l.length pc], .int .i64 dom] W fun e w' => e = .returned (.bool ((Ex.mk k n o l).fit dom 20)) ∧ Below W.heap.size W w') := fun W hW => expr_any dom _ _ W (hW.ex (hKb.ex HX1.out))
      have h4 : Hid (∀ W, Kp wr W → Calls Tryz.prog 16 #[.agg #[.int .i64 k', .int .i64 n', .int .u8 o', .slice a' l'.length c'], .int .i64 4] W fun e w' => e = .returned (.bool true) ∧ Below W.heap.size W w') := fun W hW => by
        have h := pExpr_any 4 _ _ W (hW.ex (hKb.ex hYb.hy)); rw [hf'] at h; exact h
      have h5' : Hid (∀ W, Kp wr W → Calls Tryz.prog 16 #[.agg #[.int .i64 k, .int .i64 n, .int .u8 o, .slice pa l.length pc], .int .i64 4] W fun e w' => e = .returned (.bool true) ∧ Below W.heap.size W w') := fun W hW => by
        have h := pExpr_any 4 _ _ W (hW.ex (hKb.ex HX1.out)); rw [Hf20.out] at h; exact h
      have HFin := hid (fun W' (h : Kp wr W') => HB1.out.trans ((hYb.bl.trans (h.1.mono hYb.bl.size)).mono HB1.out.size))
      generalize (Ex.mk k n o l).fit dom 20 = f at *
      have hff : (f == f) = true := by cases f <;> rfl
      have hk0 : Kp wr wr := Kp.refl _
      clear hX4 hY4 hYb hkid hf' hF hKb HX1 HV1 Hf20 Hf5 HB1 hY hY0
      generalize l.length = lk at *
      have hex2 : (¬ q < m5) ∨ (q < m5 ∧ l'.length = 0) := hex.imp id fun h => ⟨h.1, by rw [h.2]; rfl⟩
      generalize l'.length = ll at *
      clear hex
      rcases hex2 with hlt | ⟨hlt, rfl⟩
      all_goals
        go_wp2_with fail
        go_region_held3 (Kp wr)
          (first | exact Kp.drew hk0 | assumption)
          (first
            | (go_at_call 9
               with_reducible refine (h1.out _ ?_).mono ?_
               (focus assumption)
               rintro e w3 ⟨rfl, hb3⟩
               have hk3 : Kp wr w3 := Kp.next (by assumption) hb3)
            | (go_at_call 16
               with_reducible refine (h2.out _ ?_).mono ?_
               (focus assumption)
               rintro e w4 ⟨rfl, hb4⟩
               have hk4 : Kp wr w4 := Kp.next (by assumption) hb4)
            | (go_at_call 17
               with_reducible refine (h3.out _ ?_).mono ?_
               (focus assumption)
               rintro e w5 ⟨rfl, hb5⟩
               have hk5 : Kp wr w5 := Kp.next (by assumption) hb5)
            | (go_at_call 16
               with_reducible refine (h4.out _ ?_).mono ?_
               (focus assumption)
               rintro e w6 ⟨rfl, hb6⟩
               have hk6 : Kp wr w6 := Kp.next (by assumption) hb6)
            | (go_at_call 16
               with_reducible refine (h5'.out _ ?_).mono ?_
               (focus assumption)
               rintro e w7 ⟨rfl, hb7⟩
               have hk7 : Kp wr w7 := Kp.next (by assumption) hb7)
            | fail)
      all_goals
        go_wp2_with fail
        go_ret
        exact ⟨rfl, HFin.out _ hk7⟩
end Go.Proofs.YtphlbbnmligadaaGreatDoor
