/- The maker of programs by numbers: what it makes may be. -/
import Derived.Test.YtphlbbnmligadaaGreatDoorMdA
namespace Go.Proofs.YtphlbbnmligadaaGreatDoor
open Go.RowKit

/-- A program in new memory, its rows apart. -/
def PgX (w w' : World) (cs : List Value) (p : Pg) : Prop :=
  ∃ (n0 : Nat) (va : Option Addr) (cv : Nat) (ta : Option Addr) (ct : Nat), cs = [.slice va p.vars.length cv, .int .i64 p.dom, .slice ta p.ths.length ct] ∧ (w.heap.size ≤ n0 ∧ n0 ≤ w'.heap.size) ∧
    VrIn w' (Iv w.heap.size n0) va p.vars.length cv p.vars ∧ TsX w' n0 w'.heap.size (.slice ta p.ths.length ct) p.ths ∧ (Lit.int .i64 p.dom).wf = true
theorem PgX.in_ {w w' : World} {cs : List Value} {p : Pg} (h : PgX w w' cs p) : PgIn w' (New w w') cs p := by
  obtain ⟨n0, va, cv, ta, ct, he, ⟨h1, h2⟩, h3, h4, h5⟩ := h
  obtain ⟨a, c, e, hts⟩ := h4.tsO.ts
  simp only [Value.slice.injEq, true_and] at e
  obtain ⟨rfl, rfl⟩ := e
  refine ⟨va, cv, ta, ct, he, h3.widen fun b hb => ⟨hb.1, by have := hb.2; omega⟩, hts.widen fun b hb => ?_, h5⟩
  rcases hb with hb | hb
  · exact ⟨by have := hb.1; omega, hb.2.1⟩
  · exact ⟨by omega, hb.2⟩
/-- What Made leaves: a program that may be, in new memory. -/
def MadeP (w : World) (e : Ending) (w' : World) : Prop :=
  ∃ (p : Pg) (q : Nat) (cs : List Value), e = .returned (.agg cs.toArray) ∧ PgX w w' cs p ∧ 1 ≤ q ∧ q ≤ 3 ∧ p.vars = nms q ∧ 2 ≤ p.dom ∧ p.dom ≤ 4 ∧ 1 ≤ p.ths.length ∧ p.ths.length ≤ 3 ∧ (∀ L ∈ p.ths, okL q p.dom 20 L = true ∧ SmL L) ∧ Below w.heap.size w w'

theorem nms_at {q : Nat} (h1 : 1 ≤ q) (h3 : q ≤ 3) : (nms q).length = q ∧ ∀ i, i < q → s3[i]? = some (.string ((nms q)[i]?.getD ByteArray.empty)) := by
  have hq : q = 1 ∨ q = 2 ∨ q = 3 := by omega
  rcases hq with rfl | rfl | rfl
  · refine ⟨rfl, fun i hi => ?_⟩
    obtain rfl : i = 0 := by omega
    rfl
  · refine ⟨rfl, fun i hi => ?_⟩
    have : i = 0 ∨ i = 1 := by omega
    rcases this with rfl | rfl <;> rfl
  · refine ⟨rfl, fun i hi => ?_⟩
    have : i = 0 ∨ i = 1 ∨ i = 2 := by omega
    rcases this with rfl | rfl | rfl <;> rfl
theorem PT.fin {w wc wx : World} {m t P V q : Nat} {dom : Int} {va : Option Addr} {vc : Nat} {T : List (List St)} (h : PT w wc wx m t P V q dom (.slice va T.length vc) T) (hq1 : 1 ≤ q) (hq3 : q ≤ 3) (hd2 : 2 ≤ dom) (hd4 : dom ≤ 4) (ht1 : 1 ≤ T.length) (ht3 : T.length ≤ 3) :
    MadeP w (.returned (.agg #[.slice (some ⟨V, 0, none⟩) q 3, .int .i64 dom, .slice va T.length vc])) (((wx.setCell ⟨w.heap.size, 0, none⟩ (.slice (some ⟨V, 0, none⟩) q 3)).setCell ⟨w.heap.size, 1, none⟩ (.int .i64 dom)).setCell ⟨w.heap.size, 2, none⟩ (.slice va T.length vc)) := by
  have hk : ∀ b, b ≠ w.heap.size → (((wx.setCell ⟨w.heap.size, 0, none⟩ (.slice (some ⟨V, 0, none⟩) q 3)).setCell ⟨w.heap.size, 1, none⟩ (.int .i64 dom)).setCell ⟨w.heap.size, 2, none⟩ (.slice va T.length vc)).heap[b]? = wx.heap[b]? := fun b hb => by
    rw [Below.heap_setCell _ _ _ _ (by simpa using hb), Below.heap_setCell _ _ _ _ (by simpa using hb), Below.heap_setCell _ _ _ _ (by simpa using hb)]
  have hz : (((wx.setCell ⟨w.heap.size, 0, none⟩ (.slice (some ⟨V, 0, none⟩) q 3)).setCell ⟨w.heap.size, 1, none⟩ (.int .i64 dom)).setCell ⟨w.heap.size, 2, none⟩ (.slice va T.length vc)).heap.size = wx.heap.size := by simp
  have hbl : Below w.heap.size w (((wx.setCell ⟨w.heap.size, 0, none⟩ (.slice (some ⟨V, 0, none⟩) q 3)).setCell ⟨w.heap.size, 1, none⟩ (.int .i64 dom)).setCell ⟨w.heap.size, 2, none⟩ (.slice va T.length vc)) := ((h.pb.bl.setCell (by simp) _).setCell (by simp) _).setCell (by simp) _
  generalize ((wx.setCell ⟨w.heap.size, 0, none⟩ (.slice (some ⟨V, 0, none⟩) q 3)).setCell ⟨w.heap.size, 1, none⟩ (.int .i64 dom)).setCell ⟨w.heap.size, 2, none⟩ (.slice va T.length vc) = w' at *
  obtain ⟨hql, hqc⟩ := nms_at hq1 hq3
  obtain ⟨l1, l2, l3, l4⟩ := h.lt
  have hsz := h.sz
  have hrV := h.pb.rV
  have hV := (hk V (by omega)).trans h.pb.hV
  refine ⟨⟨nms q, dom, T⟩, q, [.slice (some ⟨V, 0, none⟩) q 3, .int .i64 dom, .slice va T.length vc], rfl, ⟨wc.heap.size, some ⟨V, 0, none⟩, 3, va, vc, by simp [hql], ⟨by omega, by omega⟩, ⟨rfl, ?_⟩, ?_, WalkArith.wf_i64 (by simp only; omega)⟩, hq1, hq3, rfl, hd2, hd4, ht1, ht3, h.ok, hbl⟩
  · refine ⟨by rw [hql]; exact hq3, by decide, fun _ => ⟨V, 0, rfl, ⟨by omega, l3⟩, fun i hi j hj => ?_⟩⟩
    obtain rfl : j = 0 := by omega
    have hi' : i < q := by rw [← hql]; exact hi
    rw [cell_of_heap hV]
    simpa using hqc i hi'
  · rw [hz]
    exact h.ts.kept fun b hb _ => hk b (by omega)

set_option maxRecDepth 100000 in
set_option maxHeartbeats 8000000 in
theorem madeP_of (w : World) (la : Option Addr) (ln lc : Nat) (ka : Option Addr) (kn kc : Nat) (hl : U8s w (· < w.heap.size) la ln lc) (hK : KdIn w w.heap.size ka kn kc)
    (hS : ∀ vars dom : Int, 1 ≤ vars → vars ≤ 1000 → 1 ≤ dom → dom ≤ 9223372036854775807 → StmtsAt w.heap.size (w.heap.size + 1) vars dom ka kn kc 2) :
    Calls Tryz.prog 10 #[.slice la ln lc, .slice ka kn kc] w (MadeP w) := by
  generalize hW : (w.alloc (.cells #[.slice none 0 0, .int .i64 0, .slice none 0 0] 27)).alloc (.cells #[.slice la ln lc, .int .i64 0] 41) = W0
  have z0 : W0.heap.size = w.heap.size + 2 := by subst hW; simp
  have hR : W0.heap[w.heap.size]? = some (.cells z3 27 (0, 0)) := by
    subst hW
    exact ((World.grownBy_alloc _ _ none).block _ (by simp) (by simp)).trans (heap_alloc_new w _)
  have hB0 : Below w.heap.size w W0 := by subst hW; exact ((Below.refl _ _).alloc (Nat.le_refl _) _).alloc (by simp) _
  have hM : Mkr W0 w.heap.size (w.heap.size + 1) 0 := ⟨by omega, la, ln, lc, hl.keep fun b o hb => hB0.cell (p := ⟨b, o, none⟩) hb, by subst hW; have := heap_alloc_new (w.alloc (.cells #[.slice none 0 0, .int .i64 0, .slice none 0 0] 27)) (.cells #[.slice la ln lc, .int .i64 0] 41); simpa using this⟩
  have hG : PG w W0.drew (w.heap.size + 1) 0 [] := PG.drew ⟨hM, ⟨hB0, Nat.lt_succ_self _⟩, hR, fun _ h => by simp at h⟩
  have hWx := hid hW
  have HK := hid hK
  clear hW hM hB0 hR hl hK
  go_enter Tryz.func10, Tryz.ntmps10
  go_wp2_with fail
  rw [hWx.out]
  go_cut [6] from 11 to 19 (fun v wx => ∃ P V q t, ∃ dom : Int, v = .pointer (some ⟨P, 0, none⟩) ∧ PB w wx (w.heap.size + 1) t P V q dom (.slice none 0 0) ∧ 1 ≤ q ∧ q ≤ 3 ∧ 2 ≤ dom ∧ dom ≤ 4 ∧ t ≤ 2)
  case first =>
    refine wp_region_held_drew (S := fun _ => True) (by kernel_rfl) trivial (fun hHeld => ?_)
    generalize World.drew W0 = wd at hG ⊢
    refine takeL (i := 1) (v := ?_) rfl (by kernel_rfl) (by kernel_rfl) (by kernel_rfl) (fun _ _ _ h => h) (Or.inl ⟨by rfl, ?_⟩) (by trivial) ?_
    rotate_left
    focus (intro w hSw; go_simp; try with_reducible rfl)
    simp only [Act.put, List.setIfInBounds_toArray, List.set_cons_zero, List.set_cons_succ]
    refine takeL (i := 5) (v := ?_) rfl (by kernel_rfl) (by kernel_rfl) (by kernel_rfl) (fun _ _ _ h => h) (Or.inl ⟨by rfl, ?_⟩) (by trivial) ?_
    rotate_left
    focus (intro w hSw; go_simp; try with_reducible rfl)
    simp only [Act.put, List.setIfInBounds_toArray, List.set_cons_zero, List.set_cons_succ]
    refine callL3 (i := 0) (j := 2) (k := 9) (by kernel_rfl) rfl rfl rfl (fun K hQ => ?_) (fun K hQ => ?_) (fun K hQ => ?_)
    · go_simp
      generalize hWn : World.alloc wd _ = x1
      have hG := hG.alloc hWn
      clear hWn
      refine hQ.out _ _ trivial (fun hHeld => ?_)
      clear hQ
      refine callL2 (i := 2) (j := 9) (by kernel_rfl) rfl rfl (fun K hQ => ?_) (fun K hQ => ?_)
      · go_simp
        go_at_call 23
        with_reducible refine (pick_any _ _ 0 3 _ hG.mkr (by omega) (by omega)).mono ?_
        rintro e w2 ⟨a, rfl, a0, a1, hM, hg⟩
        obtain ⟨an, rfl⟩ : ∃ an : Nat, a = an := ⟨a.toNat, by omega⟩
        obtain ⟨q, hq⟩ : ∃ q : Nat, q = an + 1 := ⟨_, rfl⟩
        have hwq : IntKind.i64.wrap (1 + (an : Int)) = (q : Int) := (IntWalk.i64_in _ (by omega)).trans (by omega)
        have q0 : (0 : Int) ≤ (q : Int) := by omega
        have q3 : (q : Int) ≤ 3 := by omega
        have hq1 : 1 ≤ q := by omega
        have hq3 : q ≤ 3 := by omega
        clear hq a0 a1
        have hG := hG.pick hM hg
        clear hM hg
        refine hQ.out _ _ trivial (fun hHeld => ?_)
        clear hQ
        refine takeL (i := 3) (v := ?_) rfl (by kernel_rfl) (by kernel_rfl) (by kernel_rfl) (fun _ _ _ h => h) (Or.inl ⟨by rfl, ?_⟩) (by trivial) ?_
        rotate_left
        focus (intro w hSw; go_simp; try with_reducible rfl)
        simp only [Act.put, List.setIfInBounds_toArray, List.set_cons_zero, List.set_cons_succ]
        refine takeL (i := 4) (v := ?_) rfl (by kernel_rfl) (by kernel_rfl) (by kernel_rfl) (fun _ _ _ h => h) (Or.inl ⟨by rfl, ?_⟩) (by trivial) ?_
        rotate_left
        focus (intro w hSw; go_simp; try with_reducible rfl)
        simp only [Act.put, List.setIfInBounds_toArray, List.set_cons_zero, List.set_cons_succ]
        refine callL2 (i := 6) (j := 9) (by kernel_rfl) rfl rfl (fun K hQ => ?_) (fun K hQ => ?_)
        · go_simp
          go_at_call 23
          with_reducible refine (pick_any _ _ 1 3 _ hG.mkr (by omega) (by omega)).mono ?_
          rintro e w3 ⟨b, rfl, b0, b1, hM, hg⟩
          obtain ⟨bn, rfl⟩ : ∃ bn : Nat, b = bn := ⟨b.toNat, by omega⟩
          obtain ⟨dom, hd⟩ : ∃ dom : Int, dom = 2 + (bn : Int) := ⟨_, rfl⟩
          have hwd : IntKind.i64.wrap (2 + (bn : Int)) = dom := (IntWalk.i64_in _ (by omega)).trans (by omega)
          have hd2 : 2 ≤ dom := by omega
          have hd4 : dom ≤ 4 := by omega
          clear hd b0 b1
          have hG := hG.pick hM hg
          clear hM hg
          refine hQ.out _ _ trivial (fun hHeld => ?_)
          clear hQ
          refine takeL (i := 7) (v := ?_) rfl (by kernel_rfl) (by kernel_rfl) (by kernel_rfl) (fun _ _ _ h => h) (Or.inl ⟨by rfl, ?_⟩) (by trivial) ?_
          rotate_left
          focus (intro w hSw; go_simp; try with_reducible rfl)
          simp only [Act.put, List.setIfInBounds_toArray, List.set_cons_zero, List.set_cons_succ]
          refine takeL (i := 8) (v := ?_) rfl (by kernel_rfl) (by kernel_rfl) (by kernel_rfl) (fun _ _ _ h => h) (Or.inl ⟨by rfl, ?_⟩) (by trivial) ?_
          rotate_left
          focus (intro w hSw; go_simp; try with_reducible rfl)
          simp only [Act.put, List.setIfInBounds_toArray, List.set_cons_zero, List.set_cons_succ]
          refine callL (i := 9) (by kernel_rfl) rfl (fun K hQ => ?_)
          · go_simp
            generalize hWn : World.alloc w3 _ = x4
            have hG := hG.alloc hWn
            clear hWn
            refine hQ.out _ _ trivial (fun hHeld => ?_)
            clear hQ
            have hmV := hG.at_ (wd.heap.size, .cells s3 9 (0, 0)) (List.Mem.tail _ (List.Mem.head _))
            have hmP := hG.at_ (w3.heap.size, .cells z3 27 (0, 0)) (List.Mem.head _)
            have zP := fun j => unfrozen (j := j) hmP.1
            have lP := (Array.getElem?_eq_some_iff.1 hmP.1).1
            have y0 := cell_of_heap (j := 0) hmP.1
            have y1 := cell_of_heap (j := 1) hmP.1
            have y2 := cell_of_heap (j := 2) hmP.1
            simp only [z3] at y0 y1 y2
            simp at y0 y1 y2
            refine callL (i := 10) (by kernel_rfl) rfl (fun K hQ => ?_)
            go_simp
            refine hQ.out _ _ trivial (fun hHeld => ?_)
            clear hQ
            refine wpAnyH_done (by kernel_rfl) ?_ _
            go_wp2_with fail
            go_meet
            case rel => exact ⟨_, _, _, _, _, rfl, hG.fin hmV hmP, hq1, hq3, hd2, hd4, by omega⟩
        · go_simp
          generalize hWn : World.alloc w2 _ = x5
          have hG := hG.alloc hWn
          clear hWn
          refine hQ.out _ _ trivial (fun hHeld => ?_)
          clear hQ
          refine callL (i := 6) (by kernel_rfl) rfl (fun K hQ => ?_)
          · go_simp
            go_at_call 23
            with_reducible refine (pick_any _ _ 1 3 _ hG.mkr (by omega) (by omega)).mono ?_
            rintro e w6 ⟨b, rfl, b0, b1, hM, hg⟩
            obtain ⟨bn, rfl⟩ : ∃ bn : Nat, b = bn := ⟨b.toNat, by omega⟩
            obtain ⟨dom, hd⟩ : ∃ dom : Int, dom = 2 + (bn : Int) := ⟨_, rfl⟩
            have hwd : IntKind.i64.wrap (2 + (bn : Int)) = dom := (IntWalk.i64_in _ (by omega)).trans (by omega)
            have hd2 : 2 ≤ dom := by omega
            have hd4 : dom ≤ 4 := by omega
            clear hd b0 b1
            have hG := hG.pick hM hg
            clear hM hg
            refine hQ.out _ _ trivial (fun hHeld => ?_)
            clear hQ
            refine takeL (i := 7) (v := ?_) rfl (by kernel_rfl) (by kernel_rfl) (by kernel_rfl) (fun _ _ _ h => h) (Or.inl ⟨by rfl, ?_⟩) (by trivial) ?_
            rotate_left
            focus (intro w hSw; go_simp; try with_reducible rfl)
            simp only [Act.put, List.setIfInBounds_toArray, List.set_cons_zero, List.set_cons_succ]
            refine takeL (i := 8) (v := ?_) rfl (by kernel_rfl) (by kernel_rfl) (by kernel_rfl) (fun _ _ _ h => h) (Or.inl ⟨by rfl, ?_⟩) (by trivial) ?_
            rotate_left
            focus (intro w hSw; go_simp; try with_reducible rfl)
            simp only [Act.put, List.setIfInBounds_toArray, List.set_cons_zero, List.set_cons_succ]
            have hmV := hG.at_ (wd.heap.size, .cells s3 9 (0, 0)) (List.Mem.tail _ (List.Mem.head _))
            have hmP := hG.at_ (w2.heap.size, .cells z3 27 (0, 0)) (List.Mem.head _)
            have zP := fun j => unfrozen (j := j) hmP.1
            have lP := (Array.getElem?_eq_some_iff.1 hmP.1).1
            have y0 := cell_of_heap (j := 0) hmP.1
            have y1 := cell_of_heap (j := 1) hmP.1
            have y2 := cell_of_heap (j := 2) hmP.1
            simp only [z3] at y0 y1 y2
            simp at y0 y1 y2
            refine callL (i := 10) (by kernel_rfl) rfl (fun K hQ => ?_)
            go_simp
            refine hQ.out _ _ trivial (fun hHeld => ?_)
            clear hQ
            refine wpAnyH_done (by kernel_rfl) ?_ _
            go_wp2_with fail
            go_meet
            case rel => exact ⟨_, _, _, _, _, rfl, hG.fin hmV hmP, hq1, hq3, hd2, hd4, by omega⟩
      · go_simp
        generalize hWn : World.alloc x1 _ = x7
        have hG := hG.alloc hWn
        clear hWn
        refine hQ.out _ _ trivial (fun hHeld => ?_)
        clear hQ
        refine callL (i := 2) (by kernel_rfl) rfl (fun K hQ => ?_)
        · go_simp
          go_at_call 23
          with_reducible refine (pick_any _ _ 0 3 _ hG.mkr (by omega) (by omega)).mono ?_
          rintro e w8 ⟨a, rfl, a0, a1, hM, hg⟩
          obtain ⟨an, rfl⟩ : ∃ an : Nat, a = an := ⟨a.toNat, by omega⟩
          obtain ⟨q, hq⟩ : ∃ q : Nat, q = an + 1 := ⟨_, rfl⟩
          have hwq : IntKind.i64.wrap (1 + (an : Int)) = (q : Int) := (IntWalk.i64_in _ (by omega)).trans (by omega)
          have q0 : (0 : Int) ≤ (q : Int) := by omega
          have q3 : (q : Int) ≤ 3 := by omega
          have hq1 : 1 ≤ q := by omega
          have hq3 : q ≤ 3 := by omega
          clear hq a0 a1
          have hG := hG.pick hM hg
          clear hM hg
          refine hQ.out _ _ trivial (fun hHeld => ?_)
          clear hQ
          refine takeL (i := 3) (v := ?_) rfl (by kernel_rfl) (by kernel_rfl) (by kernel_rfl) (fun _ _ _ h => h) (Or.inl ⟨by rfl, ?_⟩) (by trivial) ?_
          rotate_left
          focus (intro w hSw; go_simp; try with_reducible rfl)
          simp only [Act.put, List.setIfInBounds_toArray, List.set_cons_zero, List.set_cons_succ]
          refine takeL (i := 4) (v := ?_) rfl (by kernel_rfl) (by kernel_rfl) (by kernel_rfl) (fun _ _ _ h => h) (Or.inl ⟨by rfl, ?_⟩) (by trivial) ?_
          rotate_left
          focus (intro w hSw; go_simp; try with_reducible rfl)
          simp only [Act.put, List.setIfInBounds_toArray, List.set_cons_zero, List.set_cons_succ]
          refine callL (i := 6) (by kernel_rfl) rfl (fun K hQ => ?_)
          · go_simp
            go_at_call 23
            with_reducible refine (pick_any _ _ 1 3 _ hG.mkr (by omega) (by omega)).mono ?_
            rintro e w9 ⟨b, rfl, b0, b1, hM, hg⟩
            obtain ⟨bn, rfl⟩ : ∃ bn : Nat, b = bn := ⟨b.toNat, by omega⟩
            obtain ⟨dom, hd⟩ : ∃ dom : Int, dom = 2 + (bn : Int) := ⟨_, rfl⟩
            have hwd : IntKind.i64.wrap (2 + (bn : Int)) = dom := (IntWalk.i64_in _ (by omega)).trans (by omega)
            have hd2 : 2 ≤ dom := by omega
            have hd4 : dom ≤ 4 := by omega
            clear hd b0 b1
            have hG := hG.pick hM hg
            clear hM hg
            refine hQ.out _ _ trivial (fun hHeld => ?_)
            clear hQ
            refine takeL (i := 7) (v := ?_) rfl (by kernel_rfl) (by kernel_rfl) (by kernel_rfl) (fun _ _ _ h => h) (Or.inl ⟨by rfl, ?_⟩) (by trivial) ?_
            rotate_left
            focus (intro w hSw; go_simp; try with_reducible rfl)
            simp only [Act.put, List.setIfInBounds_toArray, List.set_cons_zero, List.set_cons_succ]
            refine takeL (i := 8) (v := ?_) rfl (by kernel_rfl) (by kernel_rfl) (by kernel_rfl) (fun _ _ _ h => h) (Or.inl ⟨by rfl, ?_⟩) (by trivial) ?_
            rotate_left
            focus (intro w hSw; go_simp; try with_reducible rfl)
            simp only [Act.put, List.setIfInBounds_toArray, List.set_cons_zero, List.set_cons_succ]
            have hmV := hG.at_ (wd.heap.size, .cells s3 9 (0, 0)) (List.Mem.tail _ (List.Mem.head _))
            have hmP := hG.at_ (x1.heap.size, .cells z3 27 (0, 0)) (List.Mem.head _)
            have zP := fun j => unfrozen (j := j) hmP.1
            have lP := (Array.getElem?_eq_some_iff.1 hmP.1).1
            have y0 := cell_of_heap (j := 0) hmP.1
            have y1 := cell_of_heap (j := 1) hmP.1
            have y2 := cell_of_heap (j := 2) hmP.1
            simp only [z3] at y0 y1 y2
            simp at y0 y1 y2
            refine callL (i := 10) (by kernel_rfl) rfl (fun K hQ => ?_)
            go_simp
            refine hQ.out _ _ trivial (fun hHeld => ?_)
            clear hQ
            refine wpAnyH_done (by kernel_rfl) ?_ _
            go_wp2_with fail
            go_meet
            case rel => exact ⟨_, _, _, _, _, rfl, hG.fin hmV hmP, hq1, hq3, hd2, hd4, by omega⟩
    · go_simp
      go_at_call 23
      with_reducible refine (pick_any _ _ 0 3 _ hG.mkr (by omega) (by omega)).mono ?_
      rintro e w10 ⟨a, rfl, a0, a1, hM, hg⟩
      obtain ⟨an, rfl⟩ : ∃ an : Nat, a = an := ⟨a.toNat, by omega⟩
      obtain ⟨q, hq⟩ : ∃ q : Nat, q = an + 1 := ⟨_, rfl⟩
      have hwq : IntKind.i64.wrap (1 + (an : Int)) = (q : Int) := (IntWalk.i64_in _ (by omega)).trans (by omega)
      have q0 : (0 : Int) ≤ (q : Int) := by omega
      have q3 : (q : Int) ≤ 3 := by omega
      have hq1 : 1 ≤ q := by omega
      have hq3 : q ≤ 3 := by omega
      clear hq a0 a1
      have hG := hG.pick hM hg
      clear hM hg
      refine hQ.out _ _ trivial (fun hHeld => ?_)
      clear hQ
      refine takeL (i := 3) (v := ?_) rfl (by kernel_rfl) (by kernel_rfl) (by kernel_rfl) (fun _ _ _ h => h) (Or.inl ⟨by rfl, ?_⟩) (by trivial) ?_
      rotate_left
      focus (intro w hSw; go_simp; try with_reducible rfl)
      simp only [Act.put, List.setIfInBounds_toArray, List.set_cons_zero, List.set_cons_succ]
      refine callL3 (i := 0) (j := 6) (k := 9) (by kernel_rfl) rfl rfl rfl (fun K hQ => ?_) (fun K hQ => ?_) (fun K hQ => ?_)
      · go_simp
        generalize hWn : World.alloc w10 _ = x11
        have hG := hG.alloc hWn
        clear hWn
        refine hQ.out _ _ trivial (fun hHeld => ?_)
        clear hQ
        refine takeL (i := 4) (v := ?_) rfl (by kernel_rfl) (by kernel_rfl) (by kernel_rfl) (fun _ _ _ h => h) (Or.inl ⟨by rfl, ?_⟩) (by trivial) ?_
        rotate_left
        focus (intro w hSw; go_simp; try with_reducible rfl)
        simp only [Act.put, List.setIfInBounds_toArray, List.set_cons_zero, List.set_cons_succ]
        refine callL2 (i := 6) (j := 9) (by kernel_rfl) rfl rfl (fun K hQ => ?_) (fun K hQ => ?_)
        · go_simp
          go_at_call 23
          with_reducible refine (pick_any _ _ 1 3 _ hG.mkr (by omega) (by omega)).mono ?_
          rintro e w12 ⟨b, rfl, b0, b1, hM, hg⟩
          obtain ⟨bn, rfl⟩ : ∃ bn : Nat, b = bn := ⟨b.toNat, by omega⟩
          obtain ⟨dom, hd⟩ : ∃ dom : Int, dom = 2 + (bn : Int) := ⟨_, rfl⟩
          have hwd : IntKind.i64.wrap (2 + (bn : Int)) = dom := (IntWalk.i64_in _ (by omega)).trans (by omega)
          have hd2 : 2 ≤ dom := by omega
          have hd4 : dom ≤ 4 := by omega
          clear hd b0 b1
          have hG := hG.pick hM hg
          clear hM hg
          refine hQ.out _ _ trivial (fun hHeld => ?_)
          clear hQ
          refine takeL (i := 7) (v := ?_) rfl (by kernel_rfl) (by kernel_rfl) (by kernel_rfl) (fun _ _ _ h => h) (Or.inl ⟨by rfl, ?_⟩) (by trivial) ?_
          rotate_left
          focus (intro w hSw; go_simp; try with_reducible rfl)
          simp only [Act.put, List.setIfInBounds_toArray, List.set_cons_zero, List.set_cons_succ]
          refine takeL (i := 8) (v := ?_) rfl (by kernel_rfl) (by kernel_rfl) (by kernel_rfl) (fun _ _ _ h => h) (Or.inl ⟨by rfl, ?_⟩) (by trivial) ?_
          rotate_left
          focus (intro w hSw; go_simp; try with_reducible rfl)
          simp only [Act.put, List.setIfInBounds_toArray, List.set_cons_zero, List.set_cons_succ]
          refine callL (i := 9) (by kernel_rfl) rfl (fun K hQ => ?_)
          · go_simp
            generalize hWn : World.alloc w12 _ = x13
            have hG := hG.alloc hWn
            clear hWn
            refine hQ.out _ _ trivial (fun hHeld => ?_)
            clear hQ
            have hmV := hG.at_ (w10.heap.size, .cells s3 9 (0, 0)) (List.Mem.tail _ (List.Mem.head _))
            have hmP := hG.at_ (w12.heap.size, .cells z3 27 (0, 0)) (List.Mem.head _)
            have zP := fun j => unfrozen (j := j) hmP.1
            have lP := (Array.getElem?_eq_some_iff.1 hmP.1).1
            have y0 := cell_of_heap (j := 0) hmP.1
            have y1 := cell_of_heap (j := 1) hmP.1
            have y2 := cell_of_heap (j := 2) hmP.1
            simp only [z3] at y0 y1 y2
            simp at y0 y1 y2
            refine callL (i := 10) (by kernel_rfl) rfl (fun K hQ => ?_)
            go_simp
            refine hQ.out _ _ trivial (fun hHeld => ?_)
            clear hQ
            refine wpAnyH_done (by kernel_rfl) ?_ _
            go_wp2_with fail
            go_meet
            case rel => exact ⟨_, _, _, _, _, rfl, hG.fin hmV hmP, hq1, hq3, hd2, hd4, by omega⟩
        · go_simp
          generalize hWn : World.alloc x11 _ = x14
          have hG := hG.alloc hWn
          clear hWn
          refine hQ.out _ _ trivial (fun hHeld => ?_)
          clear hQ
          refine callL (i := 6) (by kernel_rfl) rfl (fun K hQ => ?_)
          · go_simp
            go_at_call 23
            with_reducible refine (pick_any _ _ 1 3 _ hG.mkr (by omega) (by omega)).mono ?_
            rintro e w15 ⟨b, rfl, b0, b1, hM, hg⟩
            obtain ⟨bn, rfl⟩ : ∃ bn : Nat, b = bn := ⟨b.toNat, by omega⟩
            obtain ⟨dom, hd⟩ : ∃ dom : Int, dom = 2 + (bn : Int) := ⟨_, rfl⟩
            have hwd : IntKind.i64.wrap (2 + (bn : Int)) = dom := (IntWalk.i64_in _ (by omega)).trans (by omega)
            have hd2 : 2 ≤ dom := by omega
            have hd4 : dom ≤ 4 := by omega
            clear hd b0 b1
            have hG := hG.pick hM hg
            clear hM hg
            refine hQ.out _ _ trivial (fun hHeld => ?_)
            clear hQ
            refine takeL (i := 7) (v := ?_) rfl (by kernel_rfl) (by kernel_rfl) (by kernel_rfl) (fun _ _ _ h => h) (Or.inl ⟨by rfl, ?_⟩) (by trivial) ?_
            rotate_left
            focus (intro w hSw; go_simp; try with_reducible rfl)
            simp only [Act.put, List.setIfInBounds_toArray, List.set_cons_zero, List.set_cons_succ]
            refine takeL (i := 8) (v := ?_) rfl (by kernel_rfl) (by kernel_rfl) (by kernel_rfl) (fun _ _ _ h => h) (Or.inl ⟨by rfl, ?_⟩) (by trivial) ?_
            rotate_left
            focus (intro w hSw; go_simp; try with_reducible rfl)
            simp only [Act.put, List.setIfInBounds_toArray, List.set_cons_zero, List.set_cons_succ]
            have hmV := hG.at_ (w10.heap.size, .cells s3 9 (0, 0)) (List.Mem.tail _ (List.Mem.head _))
            have hmP := hG.at_ (x11.heap.size, .cells z3 27 (0, 0)) (List.Mem.head _)
            have zP := fun j => unfrozen (j := j) hmP.1
            have lP := (Array.getElem?_eq_some_iff.1 hmP.1).1
            have y0 := cell_of_heap (j := 0) hmP.1
            have y1 := cell_of_heap (j := 1) hmP.1
            have y2 := cell_of_heap (j := 2) hmP.1
            simp only [z3] at y0 y1 y2
            simp at y0 y1 y2
            refine callL (i := 10) (by kernel_rfl) rfl (fun K hQ => ?_)
            go_simp
            refine hQ.out _ _ trivial (fun hHeld => ?_)
            clear hQ
            refine wpAnyH_done (by kernel_rfl) ?_ _
            go_wp2_with fail
            go_meet
            case rel => exact ⟨_, _, _, _, _, rfl, hG.fin hmV hmP, hq1, hq3, hd2, hd4, by omega⟩
      · go_simp
        go_at_call 23
        with_reducible refine (pick_any _ _ 1 3 _ hG.mkr (by omega) (by omega)).mono ?_
        rintro e w16 ⟨b, rfl, b0, b1, hM, hg⟩
        obtain ⟨bn, rfl⟩ : ∃ bn : Nat, b = bn := ⟨b.toNat, by omega⟩
        obtain ⟨dom, hd⟩ : ∃ dom : Int, dom = 2 + (bn : Int) := ⟨_, rfl⟩
        have hwd : IntKind.i64.wrap (2 + (bn : Int)) = dom := (IntWalk.i64_in _ (by omega)).trans (by omega)
        have hd2 : 2 ≤ dom := by omega
        have hd4 : dom ≤ 4 := by omega
        clear hd b0 b1
        have hG := hG.pick hM hg
        clear hM hg
        refine hQ.out _ _ trivial (fun hHeld => ?_)
        clear hQ
        refine takeL (i := 7) (v := ?_) rfl (by kernel_rfl) (by kernel_rfl) (by kernel_rfl) (fun _ _ _ h => h) (Or.inl ⟨by rfl, ?_⟩) (by trivial) ?_
        rotate_left
        focus (intro w hSw; go_simp; try with_reducible rfl)
        simp only [Act.put, List.setIfInBounds_toArray, List.set_cons_zero, List.set_cons_succ]
        refine callL2 (i := 0) (j := 9) (by kernel_rfl) rfl rfl (fun K hQ => ?_) (fun K hQ => ?_)
        · go_simp
          generalize hWn : World.alloc w16 _ = x17
          have hG := hG.alloc hWn
          clear hWn
          refine hQ.out _ _ trivial (fun hHeld => ?_)
          clear hQ
          refine takeL (i := 4) (v := ?_) rfl (by kernel_rfl) (by kernel_rfl) (by kernel_rfl) (fun _ _ _ h => h) (Or.inl ⟨by rfl, ?_⟩) (by trivial) ?_
          rotate_left
          focus (intro w hSw; go_simp; try with_reducible rfl)
          simp only [Act.put, List.setIfInBounds_toArray, List.set_cons_zero, List.set_cons_succ]
          refine takeL (i := 8) (v := ?_) rfl (by kernel_rfl) (by kernel_rfl) (by kernel_rfl) (fun _ _ _ h => h) (Or.inl ⟨by rfl, ?_⟩) (by trivial) ?_
          rotate_left
          focus (intro w hSw; go_simp; try with_reducible rfl)
          simp only [Act.put, List.setIfInBounds_toArray, List.set_cons_zero, List.set_cons_succ]
          refine callL (i := 9) (by kernel_rfl) rfl (fun K hQ => ?_)
          · go_simp
            generalize hWn : World.alloc x17 _ = x18
            have hG := hG.alloc hWn
            clear hWn
            refine hQ.out _ _ trivial (fun hHeld => ?_)
            clear hQ
            have hmV := hG.at_ (w16.heap.size, .cells s3 9 (0, 0)) (List.Mem.tail _ (List.Mem.head _))
            have hmP := hG.at_ (x17.heap.size, .cells z3 27 (0, 0)) (List.Mem.head _)
            have zP := fun j => unfrozen (j := j) hmP.1
            have lP := (Array.getElem?_eq_some_iff.1 hmP.1).1
            have y0 := cell_of_heap (j := 0) hmP.1
            have y1 := cell_of_heap (j := 1) hmP.1
            have y2 := cell_of_heap (j := 2) hmP.1
            simp only [z3] at y0 y1 y2
            simp at y0 y1 y2
            refine callL (i := 10) (by kernel_rfl) rfl (fun K hQ => ?_)
            go_simp
            refine hQ.out _ _ trivial (fun hHeld => ?_)
            clear hQ
            refine wpAnyH_done (by kernel_rfl) ?_ _
            go_wp2_with fail
            go_meet
            case rel => exact ⟨_, _, _, _, _, rfl, hG.fin hmV hmP, hq1, hq3, hd2, hd4, by omega⟩
        · go_simp
          generalize hWn : World.alloc w16 _ = x19
          have hG := hG.alloc hWn
          clear hWn
          refine hQ.out _ _ trivial (fun hHeld => ?_)
          clear hQ
          refine callL (i := 0) (by kernel_rfl) rfl (fun K hQ => ?_)
          · go_simp
            generalize hWn : World.alloc x19 _ = x20
            have hG := hG.alloc hWn
            clear hWn
            refine hQ.out _ _ trivial (fun hHeld => ?_)
            clear hQ
            refine takeL (i := 4) (v := ?_) rfl (by kernel_rfl) (by kernel_rfl) (by kernel_rfl) (fun _ _ _ h => h) (Or.inl ⟨by rfl, ?_⟩) (by trivial) ?_
            rotate_left
            focus (intro w hSw; go_simp; try with_reducible rfl)
            simp only [Act.put, List.setIfInBounds_toArray, List.set_cons_zero, List.set_cons_succ]
            refine takeL (i := 8) (v := ?_) rfl (by kernel_rfl) (by kernel_rfl) (by kernel_rfl) (fun _ _ _ h => h) (Or.inl ⟨by rfl, ?_⟩) (by trivial) ?_
            rotate_left
            focus (intro w hSw; go_simp; try with_reducible rfl)
            simp only [Act.put, List.setIfInBounds_toArray, List.set_cons_zero, List.set_cons_succ]
            have hmV := hG.at_ (x19.heap.size, .cells s3 9 (0, 0)) (List.Mem.head _)
            have hmP := hG.at_ (w16.heap.size, .cells z3 27 (0, 0)) (List.Mem.tail _ (List.Mem.head _))
            have zP := fun j => unfrozen (j := j) hmP.1
            have lP := (Array.getElem?_eq_some_iff.1 hmP.1).1
            have y0 := cell_of_heap (j := 0) hmP.1
            have y1 := cell_of_heap (j := 1) hmP.1
            have y2 := cell_of_heap (j := 2) hmP.1
            simp only [z3] at y0 y1 y2
            simp at y0 y1 y2
            refine callL (i := 10) (by kernel_rfl) rfl (fun K hQ => ?_)
            go_simp
            refine hQ.out _ _ trivial (fun hHeld => ?_)
            clear hQ
            refine wpAnyH_done (by kernel_rfl) ?_ _
            go_wp2_with fail
            go_meet
            case rel => exact ⟨_, _, _, _, _, rfl, hG.fin hmV hmP, hq1, hq3, hd2, hd4, by omega⟩
      · go_simp
        generalize hWn : World.alloc w10 _ = x21
        have hG := hG.alloc hWn
        clear hWn
        refine hQ.out _ _ trivial (fun hHeld => ?_)
        clear hQ
        refine callL2 (i := 0) (j := 6) (by kernel_rfl) rfl rfl (fun K hQ => ?_) (fun K hQ => ?_)
        · go_simp
          generalize hWn : World.alloc x21 _ = x22
          have hG := hG.alloc hWn
          clear hWn
          refine hQ.out _ _ trivial (fun hHeld => ?_)
          clear hQ
          refine takeL (i := 4) (v := ?_) rfl (by kernel_rfl) (by kernel_rfl) (by kernel_rfl) (fun _ _ _ h => h) (Or.inl ⟨by rfl, ?_⟩) (by trivial) ?_
          rotate_left
          focus (intro w hSw; go_simp; try with_reducible rfl)
          simp only [Act.put, List.setIfInBounds_toArray, List.set_cons_zero, List.set_cons_succ]
          refine callL (i := 6) (by kernel_rfl) rfl (fun K hQ => ?_)
          · go_simp
            go_at_call 23
            with_reducible refine (pick_any _ _ 1 3 _ hG.mkr (by omega) (by omega)).mono ?_
            rintro e w23 ⟨b, rfl, b0, b1, hM, hg⟩
            obtain ⟨bn, rfl⟩ : ∃ bn : Nat, b = bn := ⟨b.toNat, by omega⟩
            obtain ⟨dom, hd⟩ : ∃ dom : Int, dom = 2 + (bn : Int) := ⟨_, rfl⟩
            have hwd : IntKind.i64.wrap (2 + (bn : Int)) = dom := (IntWalk.i64_in _ (by omega)).trans (by omega)
            have hd2 : 2 ≤ dom := by omega
            have hd4 : dom ≤ 4 := by omega
            clear hd b0 b1
            have hG := hG.pick hM hg
            clear hM hg
            refine hQ.out _ _ trivial (fun hHeld => ?_)
            clear hQ
            refine takeL (i := 7) (v := ?_) rfl (by kernel_rfl) (by kernel_rfl) (by kernel_rfl) (fun _ _ _ h => h) (Or.inl ⟨by rfl, ?_⟩) (by trivial) ?_
            rotate_left
            focus (intro w hSw; go_simp; try with_reducible rfl)
            simp only [Act.put, List.setIfInBounds_toArray, List.set_cons_zero, List.set_cons_succ]
            refine takeL (i := 8) (v := ?_) rfl (by kernel_rfl) (by kernel_rfl) (by kernel_rfl) (fun _ _ _ h => h) (Or.inl ⟨by rfl, ?_⟩) (by trivial) ?_
            rotate_left
            focus (intro w hSw; go_simp; try with_reducible rfl)
            simp only [Act.put, List.setIfInBounds_toArray, List.set_cons_zero, List.set_cons_succ]
            have hmV := hG.at_ (x21.heap.size, .cells s3 9 (0, 0)) (List.Mem.head _)
            have hmP := hG.at_ (w10.heap.size, .cells z3 27 (0, 0)) (List.Mem.tail _ (List.Mem.head _))
            have zP := fun j => unfrozen (j := j) hmP.1
            have lP := (Array.getElem?_eq_some_iff.1 hmP.1).1
            have y0 := cell_of_heap (j := 0) hmP.1
            have y1 := cell_of_heap (j := 1) hmP.1
            have y2 := cell_of_heap (j := 2) hmP.1
            simp only [z3] at y0 y1 y2
            simp at y0 y1 y2
            refine callL (i := 10) (by kernel_rfl) rfl (fun K hQ => ?_)
            go_simp
            refine hQ.out _ _ trivial (fun hHeld => ?_)
            clear hQ
            refine wpAnyH_done (by kernel_rfl) ?_ _
            go_wp2_with fail
            go_meet
            case rel => exact ⟨_, _, _, _, _, rfl, hG.fin hmV hmP, hq1, hq3, hd2, hd4, by omega⟩
        · go_simp
          go_at_call 23
          with_reducible refine (pick_any _ _ 1 3 _ hG.mkr (by omega) (by omega)).mono ?_
          rintro e w24 ⟨b, rfl, b0, b1, hM, hg⟩
          obtain ⟨bn, rfl⟩ : ∃ bn : Nat, b = bn := ⟨b.toNat, by omega⟩
          obtain ⟨dom, hd⟩ : ∃ dom : Int, dom = 2 + (bn : Int) := ⟨_, rfl⟩
          have hwd : IntKind.i64.wrap (2 + (bn : Int)) = dom := (IntWalk.i64_in _ (by omega)).trans (by omega)
          have hd2 : 2 ≤ dom := by omega
          have hd4 : dom ≤ 4 := by omega
          clear hd b0 b1
          have hG := hG.pick hM hg
          clear hM hg
          refine hQ.out _ _ trivial (fun hHeld => ?_)
          clear hQ
          refine takeL (i := 7) (v := ?_) rfl (by kernel_rfl) (by kernel_rfl) (by kernel_rfl) (fun _ _ _ h => h) (Or.inl ⟨by rfl, ?_⟩) (by trivial) ?_
          rotate_left
          focus (intro w hSw; go_simp; try with_reducible rfl)
          simp only [Act.put, List.setIfInBounds_toArray, List.set_cons_zero, List.set_cons_succ]
          refine callL (i := 0) (by kernel_rfl) rfl (fun K hQ => ?_)
          · go_simp
            generalize hWn : World.alloc w24 _ = x25
            have hG := hG.alloc hWn
            clear hWn
            refine hQ.out _ _ trivial (fun hHeld => ?_)
            clear hQ
            refine takeL (i := 4) (v := ?_) rfl (by kernel_rfl) (by kernel_rfl) (by kernel_rfl) (fun _ _ _ h => h) (Or.inl ⟨by rfl, ?_⟩) (by trivial) ?_
            rotate_left
            focus (intro w hSw; go_simp; try with_reducible rfl)
            simp only [Act.put, List.setIfInBounds_toArray, List.set_cons_zero, List.set_cons_succ]
            refine takeL (i := 8) (v := ?_) rfl (by kernel_rfl) (by kernel_rfl) (by kernel_rfl) (fun _ _ _ h => h) (Or.inl ⟨by rfl, ?_⟩) (by trivial) ?_
            rotate_left
            focus (intro w hSw; go_simp; try with_reducible rfl)
            simp only [Act.put, List.setIfInBounds_toArray, List.set_cons_zero, List.set_cons_succ]
            have hmV := hG.at_ (w24.heap.size, .cells s3 9 (0, 0)) (List.Mem.head _)
            have hmP := hG.at_ (w10.heap.size, .cells z3 27 (0, 0)) (List.Mem.tail _ (List.Mem.head _))
            have zP := fun j => unfrozen (j := j) hmP.1
            have lP := (Array.getElem?_eq_some_iff.1 hmP.1).1
            have y0 := cell_of_heap (j := 0) hmP.1
            have y1 := cell_of_heap (j := 1) hmP.1
            have y2 := cell_of_heap (j := 2) hmP.1
            simp only [z3] at y0 y1 y2
            simp at y0 y1 y2
            refine callL (i := 10) (by kernel_rfl) rfl (fun K hQ => ?_)
            go_simp
            refine hQ.out _ _ trivial (fun hHeld => ?_)
            clear hQ
            refine wpAnyH_done (by kernel_rfl) ?_ _
            go_wp2_with fail
            go_meet
            case rel => exact ⟨_, _, _, _, _, rfl, hG.fin hmV hmP, hq1, hq3, hd2, hd4, by omega⟩
    · go_simp
      generalize hWn : World.alloc wd _ = x26
      have hG := hG.alloc hWn
      clear hWn
      refine hQ.out _ _ trivial (fun hHeld => ?_)
      clear hQ
      refine callL2 (i := 0) (j := 2) (by kernel_rfl) rfl rfl (fun K hQ => ?_) (fun K hQ => ?_)
      · go_simp
        generalize hWn : World.alloc x26 _ = x27
        have hG := hG.alloc hWn
        clear hWn
        refine hQ.out _ _ trivial (fun hHeld => ?_)
        clear hQ
        refine callL (i := 2) (by kernel_rfl) rfl (fun K hQ => ?_)
        · go_simp
          go_at_call 23
          with_reducible refine (pick_any _ _ 0 3 _ hG.mkr (by omega) (by omega)).mono ?_
          rintro e w28 ⟨a, rfl, a0, a1, hM, hg⟩
          obtain ⟨an, rfl⟩ : ∃ an : Nat, a = an := ⟨a.toNat, by omega⟩
          obtain ⟨q, hq⟩ : ∃ q : Nat, q = an + 1 := ⟨_, rfl⟩
          have hwq : IntKind.i64.wrap (1 + (an : Int)) = (q : Int) := (IntWalk.i64_in _ (by omega)).trans (by omega)
          have q0 : (0 : Int) ≤ (q : Int) := by omega
          have q3 : (q : Int) ≤ 3 := by omega
          have hq1 : 1 ≤ q := by omega
          have hq3 : q ≤ 3 := by omega
          clear hq a0 a1
          have hG := hG.pick hM hg
          clear hM hg
          refine hQ.out _ _ trivial (fun hHeld => ?_)
          clear hQ
          refine takeL (i := 3) (v := ?_) rfl (by kernel_rfl) (by kernel_rfl) (by kernel_rfl) (fun _ _ _ h => h) (Or.inl ⟨by rfl, ?_⟩) (by trivial) ?_
          rotate_left
          focus (intro w hSw; go_simp; try with_reducible rfl)
          simp only [Act.put, List.setIfInBounds_toArray, List.set_cons_zero, List.set_cons_succ]
          refine takeL (i := 4) (v := ?_) rfl (by kernel_rfl) (by kernel_rfl) (by kernel_rfl) (fun _ _ _ h => h) (Or.inl ⟨by rfl, ?_⟩) (by trivial) ?_
          rotate_left
          focus (intro w hSw; go_simp; try with_reducible rfl)
          simp only [Act.put, List.setIfInBounds_toArray, List.set_cons_zero, List.set_cons_succ]
          refine callL (i := 6) (by kernel_rfl) rfl (fun K hQ => ?_)
          · go_simp
            go_at_call 23
            with_reducible refine (pick_any _ _ 1 3 _ hG.mkr (by omega) (by omega)).mono ?_
            rintro e w29 ⟨b, rfl, b0, b1, hM, hg⟩
            obtain ⟨bn, rfl⟩ : ∃ bn : Nat, b = bn := ⟨b.toNat, by omega⟩
            obtain ⟨dom, hd⟩ : ∃ dom : Int, dom = 2 + (bn : Int) := ⟨_, rfl⟩
            have hwd : IntKind.i64.wrap (2 + (bn : Int)) = dom := (IntWalk.i64_in _ (by omega)).trans (by omega)
            have hd2 : 2 ≤ dom := by omega
            have hd4 : dom ≤ 4 := by omega
            clear hd b0 b1
            have hG := hG.pick hM hg
            clear hM hg
            refine hQ.out _ _ trivial (fun hHeld => ?_)
            clear hQ
            refine takeL (i := 7) (v := ?_) rfl (by kernel_rfl) (by kernel_rfl) (by kernel_rfl) (fun _ _ _ h => h) (Or.inl ⟨by rfl, ?_⟩) (by trivial) ?_
            rotate_left
            focus (intro w hSw; go_simp; try with_reducible rfl)
            simp only [Act.put, List.setIfInBounds_toArray, List.set_cons_zero, List.set_cons_succ]
            refine takeL (i := 8) (v := ?_) rfl (by kernel_rfl) (by kernel_rfl) (by kernel_rfl) (fun _ _ _ h => h) (Or.inl ⟨by rfl, ?_⟩) (by trivial) ?_
            rotate_left
            focus (intro w hSw; go_simp; try with_reducible rfl)
            simp only [Act.put, List.setIfInBounds_toArray, List.set_cons_zero, List.set_cons_succ]
            have hmV := hG.at_ (x26.heap.size, .cells s3 9 (0, 0)) (List.Mem.head _)
            have hmP := hG.at_ (wd.heap.size, .cells z3 27 (0, 0)) (List.Mem.tail _ (List.Mem.head _))
            have zP := fun j => unfrozen (j := j) hmP.1
            have lP := (Array.getElem?_eq_some_iff.1 hmP.1).1
            have y0 := cell_of_heap (j := 0) hmP.1
            have y1 := cell_of_heap (j := 1) hmP.1
            have y2 := cell_of_heap (j := 2) hmP.1
            simp only [z3] at y0 y1 y2
            simp at y0 y1 y2
            refine callL (i := 10) (by kernel_rfl) rfl (fun K hQ => ?_)
            go_simp
            refine hQ.out _ _ trivial (fun hHeld => ?_)
            clear hQ
            refine wpAnyH_done (by kernel_rfl) ?_ _
            go_wp2_with fail
            go_meet
            case rel => exact ⟨_, _, _, _, _, rfl, hG.fin hmV hmP, hq1, hq3, hd2, hd4, by omega⟩
      · go_simp
        go_at_call 23
        with_reducible refine (pick_any _ _ 0 3 _ hG.mkr (by omega) (by omega)).mono ?_
        rintro e w30 ⟨a, rfl, a0, a1, hM, hg⟩
        obtain ⟨an, rfl⟩ : ∃ an : Nat, a = an := ⟨a.toNat, by omega⟩
        obtain ⟨q, hq⟩ : ∃ q : Nat, q = an + 1 := ⟨_, rfl⟩
        have hwq : IntKind.i64.wrap (1 + (an : Int)) = (q : Int) := (IntWalk.i64_in _ (by omega)).trans (by omega)
        have q0 : (0 : Int) ≤ (q : Int) := by omega
        have q3 : (q : Int) ≤ 3 := by omega
        have hq1 : 1 ≤ q := by omega
        have hq3 : q ≤ 3 := by omega
        clear hq a0 a1
        have hG := hG.pick hM hg
        clear hM hg
        refine hQ.out _ _ trivial (fun hHeld => ?_)
        clear hQ
        refine takeL (i := 3) (v := ?_) rfl (by kernel_rfl) (by kernel_rfl) (by kernel_rfl) (fun _ _ _ h => h) (Or.inl ⟨by rfl, ?_⟩) (by trivial) ?_
        rotate_left
        focus (intro w hSw; go_simp; try with_reducible rfl)
        simp only [Act.put, List.setIfInBounds_toArray, List.set_cons_zero, List.set_cons_succ]
        refine callL2 (i := 0) (j := 6) (by kernel_rfl) rfl rfl (fun K hQ => ?_) (fun K hQ => ?_)
        · go_simp
          generalize hWn : World.alloc w30 _ = x31
          have hG := hG.alloc hWn
          clear hWn
          refine hQ.out _ _ trivial (fun hHeld => ?_)
          clear hQ
          refine takeL (i := 4) (v := ?_) rfl (by kernel_rfl) (by kernel_rfl) (by kernel_rfl) (fun _ _ _ h => h) (Or.inl ⟨by rfl, ?_⟩) (by trivial) ?_
          rotate_left
          focus (intro w hSw; go_simp; try with_reducible rfl)
          simp only [Act.put, List.setIfInBounds_toArray, List.set_cons_zero, List.set_cons_succ]
          refine callL (i := 6) (by kernel_rfl) rfl (fun K hQ => ?_)
          · go_simp
            go_at_call 23
            with_reducible refine (pick_any _ _ 1 3 _ hG.mkr (by omega) (by omega)).mono ?_
            rintro e w32 ⟨b, rfl, b0, b1, hM, hg⟩
            obtain ⟨bn, rfl⟩ : ∃ bn : Nat, b = bn := ⟨b.toNat, by omega⟩
            obtain ⟨dom, hd⟩ : ∃ dom : Int, dom = 2 + (bn : Int) := ⟨_, rfl⟩
            have hwd : IntKind.i64.wrap (2 + (bn : Int)) = dom := (IntWalk.i64_in _ (by omega)).trans (by omega)
            have hd2 : 2 ≤ dom := by omega
            have hd4 : dom ≤ 4 := by omega
            clear hd b0 b1
            have hG := hG.pick hM hg
            clear hM hg
            refine hQ.out _ _ trivial (fun hHeld => ?_)
            clear hQ
            refine takeL (i := 7) (v := ?_) rfl (by kernel_rfl) (by kernel_rfl) (by kernel_rfl) (fun _ _ _ h => h) (Or.inl ⟨by rfl, ?_⟩) (by trivial) ?_
            rotate_left
            focus (intro w hSw; go_simp; try with_reducible rfl)
            simp only [Act.put, List.setIfInBounds_toArray, List.set_cons_zero, List.set_cons_succ]
            refine takeL (i := 8) (v := ?_) rfl (by kernel_rfl) (by kernel_rfl) (by kernel_rfl) (fun _ _ _ h => h) (Or.inl ⟨by rfl, ?_⟩) (by trivial) ?_
            rotate_left
            focus (intro w hSw; go_simp; try with_reducible rfl)
            simp only [Act.put, List.setIfInBounds_toArray, List.set_cons_zero, List.set_cons_succ]
            have hmV := hG.at_ (w30.heap.size, .cells s3 9 (0, 0)) (List.Mem.head _)
            have hmP := hG.at_ (wd.heap.size, .cells z3 27 (0, 0)) (List.Mem.tail _ (List.Mem.head _))
            have zP := fun j => unfrozen (j := j) hmP.1
            have lP := (Array.getElem?_eq_some_iff.1 hmP.1).1
            have y0 := cell_of_heap (j := 0) hmP.1
            have y1 := cell_of_heap (j := 1) hmP.1
            have y2 := cell_of_heap (j := 2) hmP.1
            simp only [z3] at y0 y1 y2
            simp at y0 y1 y2
            refine callL (i := 10) (by kernel_rfl) rfl (fun K hQ => ?_)
            go_simp
            refine hQ.out _ _ trivial (fun hHeld => ?_)
            clear hQ
            refine wpAnyH_done (by kernel_rfl) ?_ _
            go_wp2_with fail
            go_meet
            case rel => exact ⟨_, _, _, _, _, rfl, hG.fin hmV hmP, hq1, hq3, hd2, hd4, by omega⟩
        · go_simp
          go_at_call 23
          with_reducible refine (pick_any _ _ 1 3 _ hG.mkr (by omega) (by omega)).mono ?_
          rintro e w33 ⟨b, rfl, b0, b1, hM, hg⟩
          obtain ⟨bn, rfl⟩ : ∃ bn : Nat, b = bn := ⟨b.toNat, by omega⟩
          obtain ⟨dom, hd⟩ : ∃ dom : Int, dom = 2 + (bn : Int) := ⟨_, rfl⟩
          have hwd : IntKind.i64.wrap (2 + (bn : Int)) = dom := (IntWalk.i64_in _ (by omega)).trans (by omega)
          have hd2 : 2 ≤ dom := by omega
          have hd4 : dom ≤ 4 := by omega
          clear hd b0 b1
          have hG := hG.pick hM hg
          clear hM hg
          refine hQ.out _ _ trivial (fun hHeld => ?_)
          clear hQ
          refine takeL (i := 7) (v := ?_) rfl (by kernel_rfl) (by kernel_rfl) (by kernel_rfl) (fun _ _ _ h => h) (Or.inl ⟨by rfl, ?_⟩) (by trivial) ?_
          rotate_left
          focus (intro w hSw; go_simp; try with_reducible rfl)
          simp only [Act.put, List.setIfInBounds_toArray, List.set_cons_zero, List.set_cons_succ]
          refine callL (i := 0) (by kernel_rfl) rfl (fun K hQ => ?_)
          · go_simp
            generalize hWn : World.alloc w33 _ = x34
            have hG := hG.alloc hWn
            clear hWn
            refine hQ.out _ _ trivial (fun hHeld => ?_)
            clear hQ
            refine takeL (i := 4) (v := ?_) rfl (by kernel_rfl) (by kernel_rfl) (by kernel_rfl) (fun _ _ _ h => h) (Or.inl ⟨by rfl, ?_⟩) (by trivial) ?_
            rotate_left
            focus (intro w hSw; go_simp; try with_reducible rfl)
            simp only [Act.put, List.setIfInBounds_toArray, List.set_cons_zero, List.set_cons_succ]
            refine takeL (i := 8) (v := ?_) rfl (by kernel_rfl) (by kernel_rfl) (by kernel_rfl) (fun _ _ _ h => h) (Or.inl ⟨by rfl, ?_⟩) (by trivial) ?_
            rotate_left
            focus (intro w hSw; go_simp; try with_reducible rfl)
            simp only [Act.put, List.setIfInBounds_toArray, List.set_cons_zero, List.set_cons_succ]
            have hmV := hG.at_ (w33.heap.size, .cells s3 9 (0, 0)) (List.Mem.head _)
            have hmP := hG.at_ (wd.heap.size, .cells z3 27 (0, 0)) (List.Mem.tail _ (List.Mem.head _))
            have zP := fun j => unfrozen (j := j) hmP.1
            have lP := (Array.getElem?_eq_some_iff.1 hmP.1).1
            have y0 := cell_of_heap (j := 0) hmP.1
            have y1 := cell_of_heap (j := 1) hmP.1
            have y2 := cell_of_heap (j := 2) hmP.1
            simp only [z3] at y0 y1 y2
            simp at y0 y1 y2
            refine callL (i := 10) (by kernel_rfl) rfl (fun K hQ => ?_)
            go_simp
            refine hQ.out _ _ trivial (fun hHeld => ?_)
            clear hQ
            refine wpAnyH_done (by kernel_rfl) ?_ _
            go_wp2_with fail
            go_meet
            case rel => exact ⟨_, _, _, _, _, rfl, hG.fin hmV hmP, hq1, hq3, hd2, hd4, by omega⟩
  case rest =>
  obtain ⟨P, V, q, t0, dom, rfl, hPB, hq1, hq3, hd2, hd4, ht0⟩ := hcut
  have HS := hid (hS q dom (by omega) (by omega) (by omega) (by omega))
  have hcB : 4 * cB 2 ≤ 52 := by decide
  have htB : 4 * tB 2 ≤ 3500 := by decide
  clear hG hWx hS z0 W0
  go_wp2_with fail
  refine (pick_any _ _ t0 3 _ hPB.mkr (by omega) (by omega)).mono ?_
  rintro e wd ⟨nq, rfl, n0, n1, hM, hg⟩
  obtain ⟨nn, rfl⟩ : ∃ nn : Nat, nq = nn := ⟨nq.toNat, by omega⟩
  obtain ⟨N, hN⟩ : ∃ N : Nat, N = nn + 1 := ⟨_, rfl⟩
  have hwN : IntKind.i64.wrap (1 + (nn : Int)) = (N : Int) := (IntWalk.i64_in _ (by omega)).trans (by omega)
  have hN1 : 1 ≤ N := by omega
  have hN3 : N ≤ 3 := by omega
  have hPB := hPB.call hM hg
  clear hM hg hN n0 n1
  have lt : ∀ {b o}, wd.heap[b]? = some o → b < wd.heap.size := fun e => (Array.getElem?_eq_some_iff.1 e).1
  have HT0 : Hid (PT w wd wd (w.heap.size + 1) (t0 + 1) P V q dom (.slice none 0 0) []) := ⟨hPB, ⟨hPB.mkr.lt, lt hPB.hP, lt hPB.hV, lt hPB.hR⟩, Nat.le_refl _, TsX.nil_, fun _ h => by simp at h⟩
  clear lt hPB
  go_wp2_with fail
  go_loopw [7] (fun i wr => ∃ (r t : Nat) (v : Value) (T : List (List St)), T.length + r = N ∧ i = .int .i64 r ∧ Hid (PT w wd wr (w.heap.size + 1) t P V q dom v T) ∧ t ≤ 3 + 4000 * T.length) (fun i _ => (intOf i).toNat)
  case atStart => exact ⟨N, t0 + 1, _, [], by simp, rfl, HT0, by simp; omega⟩
  case round =>
    clear HT0
    obtain ⟨r, t, v, T, hTr, rfl, HT, ht⟩ := hrel
    by_cases hlt : 0 < r
    · obtain ⟨r, rfl⟩ : ∃ r', r = r' + 1 := ⟨r - 1, by omega⟩
      have k0 : (0 : Int) < ((r + 1 : Nat) : Int) := by omega
      have hrd : IntKind.i64.wrap (((r + 1 : Nat) : Int) - 1) = (r : Int) := (IntWalk.i64_in _ (by omega)).trans (by omega)
      have HRd := hid hrd
      generalize hR1 : ((r + 1 : Nat) : Int) = R1 at *
      have HT := hid HT.out.drew
      go_wp2_with fail
      obtain ⟨h0, h1, h2, -⟩ := HT.out.pb.cells
      refine wp_region_held_drew (S := fun W => W.cell? ⟨P, 0, none⟩ = some (.slice (some ⟨V, 0, none⟩) q 3) ∧ W.cell? ⟨P, 1, none⟩ = some (.int .i64 dom)) (by kernel_rfl) ⟨h0, h1⟩ (fun hHeld => ?_)
      generalize World.drew wr = wd' at HT h0 h1 h2 hHeld ⊢
      refine takeL (i := 0) (v := ?_) rfl (by kernel_rfl) (by kernel_rfl) (by kernel_rfl) (fun _ _ _ h => h) (Or.inl ⟨by rfl, ?_⟩) (by assumption) ?_
      rotate_left
      focus (intro w hSw; go_simp; try with_reducible rfl)
      simp only [Act.put, List.setIfInBounds_toArray, List.set_cons_zero, List.set_cons_succ]
      refine takeL (i := 2) (v := ?_) rfl (by kernel_rfl) (by kernel_rfl) (by kernel_rfl) (fun _ _ _ h => h) (Or.inl ⟨by rfl, ?_⟩) (by assumption) ?_
      rotate_left
      focus (intro w hSw; go_simp; try with_reducible rfl)
      simp only [Act.put, List.setIfInBounds_toArray, List.set_cons_zero, List.set_cons_succ]
      refine takeL (i := 3) (v := ?_) rfl (by kernel_rfl) (by kernel_rfl) (by kernel_rfl) (fun _ _ _ h => h) (Or.inl ⟨by rfl, ?_⟩) (by assumption) ?_
      rotate_left
      focus (intro w hSw; go_simp; try with_reducible rfl)
      simp only [Act.put, List.setIfInBounds_toArray, List.set_cons_zero, List.set_cons_succ]
      refine takeL (i := 5) (v := ?_) rfl (by kernel_rfl) (by kernel_rfl) (by kernel_rfl) (fun _ _ _ h => h) (Or.inl ⟨by rfl, ?_⟩) (by assumption) ?_
      rotate_left
      focus (intro w hSw; go_simp; try with_reducible rfl)
      simp only [Act.put, List.setIfInBounds_toArray, List.set_cons_zero, List.set_cons_succ]
      refine takeL (i := 6) (v := ?_) rfl (by kernel_rfl) (by kernel_rfl) (by kernel_rfl) (fun _ _ _ h => h) (Or.inl ⟨by rfl, ?_⟩) (by assumption) ?_
      rotate_left
      focus (intro w hSw; go_simp; try with_reducible rfl)
      simp only [Act.put, List.setIfInBounds_toArray, List.set_cons_zero, List.set_cons_succ]
      refine takeL (i := 7) (v := ?_) rfl (by kernel_rfl) (by kernel_rfl) (by kernel_rfl) (fun _ _ _ h => h) (Or.inl ⟨by rfl, ?_⟩) (by assumption) ?_
      rotate_left
      focus (intro w hSw; go_simp; try with_reducible rfl)
      simp only [Act.put, List.setIfInBounds_toArray, List.set_cons_zero, List.set_cons_succ]
      refine takeL (i := 8) (v := ?_) rfl (by kernel_rfl) (by kernel_rfl) (by kernel_rfl) (fun _ _ _ h => h) (Or.inl ⟨by rfl, ?_⟩) (by assumption) ?_
      rotate_left
      focus (intro w hSw; go_simp; try with_reducible rfl)
      simp only [Act.put, List.setIfInBounds_toArray, List.set_cons_zero, List.set_cons_succ]
      refine takeL (i := 9) (v := ?_) rfl (by kernel_rfl) (by kernel_rfl) (by kernel_rfl) (fun _ _ _ h => h) (Or.inl ⟨by rfl, ?_⟩) (by assumption) ?_
      rotate_left
      focus (intro w hSw; go_simp; try with_reducible rfl)
      simp only [Act.put, List.setIfInBounds_toArray, List.set_cons_zero, List.set_cons_succ]
      refine takeL (i := 10) (v := ?_) rfl (by kernel_rfl) (by kernel_rfl) (by kernel_rfl) (fun _ _ _ h => h) (Or.inl ⟨by rfl, ?_⟩) (by assumption) ?_
      rotate_left
      focus (intro w hSw; go_simp; try with_reducible rfl)
      simp only [Act.put, List.setIfInBounds_toArray, List.set_cons_zero, List.set_cons_succ]
      refine callL2 (i := 1) (j := 4) (by kernel_rfl) rfl rfl (fun K hQ => ?_) (fun K hQ => ?_)
      · go_simp
        refine hQ.out _ _ ⟨h0, h1⟩ (fun hHeld => ?_)
        clear hQ
        refine callL (i := 4) (by kernel_rfl) rfl (fun K hQ => ?_)
        · go_simp
          go_at_call 23
          with_reducible refine (pick_any _ _ t 5 _ HT.out.pb.mkr (by omega) (by omega)).mono ?_
          rintro e x ⟨cq, rfl, cq0, cq1, hM, hg⟩
          obtain ⟨cn, rfl⟩ : ∃ cn : Nat, cq = cn := ⟨cq.toNat, by omega⟩
          have HT := hid (HT.out.call hM hg)
          clear hM hg h0 h1 h2
          obtain ⟨h0, h1, h2, -⟩ := HT.out.pb.cells
          refine hQ.out _ _ ⟨h0, h1⟩ (fun hHeld => ?_)
          clear hQ
          refine callL (i := 11) (by kernel_rfl) rfl (fun K hQ => ?_)
          · go_simp
            go_at_call 24
            have hp4 : cn * cB 2 ≤ 4 * cB 2 := Nat.mul_le_mul_right _ (by omega)
            have ht4 : cn * tB 2 ≤ 4 * tB 2 := Nat.mul_le_mul_right _ (by omega)
            have HC := HS.out 2 cn (t + 1) x rfl (by omega) HT.out.pb.mkr (HK.out.keep fun b o hb => HT.out.pb.bl.cell (p := ⟨b, o, none⟩) hb) (by omega)
            with_reducible refine HC.mono ?_
            rintro e x2 ⟨sa, sc, Ls, t2, rfl, hrow, hlen, hok, hcnt, hM, ht2, hg⟩
            have HL := hid (HT.out.row hg hrow)
            have HT := hid (HT.out.call hM hg)
            rw [Bool.and_eq_true] at hok
            have Hok := hid (okL_mono (m := 20) (by omega) hok.1)
            have Hcn : Hid (SmL Ls) := ⟨Nat.le_trans hcnt (Nat.le_trans hp4 hcB), hok.2⟩
            have ht2' : t2 ≤ t + 4000 := by omega
            clear hM hg hrow hlen hok hcnt hp4 ht4 ht2 h0 h1 h2
            obtain ⟨h0, h1, h2, -⟩ := HT.out.pb.cells
            refine hQ.out _ _ ⟨h0, h1⟩ (fun hHeld => ?_)
            clear hQ
            refine callL (i := 12) (by kernel_rfl) rfl (fun K hQ => ?_)
            · go_simp
              generalize hWn : World.alloc x2 _ = x'
              have hsrc : Hid (∃ A c, Value.slice (some ⟨x2.heap.size, 0, none⟩) 1 1 = .slice A 1 c ∧ SrcAt x' 1 A 1 [.slice sa Ls.length sc]) := by subst hWn; exact ⟨_, _, rfl, src_new rfl⟩
              have HT : Hid (PT w wd x' (w.heap.size + 1) t2 P V q dom v T) := by subst hWn; exact HT.out.alloc _
              have HL : Hid (Pnd wd x' v T sa sc Ls) := by subst hWn; exact HL.out.alloc _
              clear hWn h0 h1 h2
              obtain ⟨h0, h1, h2, -⟩ := HT.out.pb.cells
              refine hQ.out _ _ ⟨h0, h1⟩ (fun hHeld => ?_)
              clear hQ
              refine callL (i := 13) (by kernel_rfl) rfl (fun K hQ => ?_)
              refine step_tsP (wc := wd) (.tmp 28) (.tmp 39) v T Ls sa sc ?_ ?_ ?_ ?_ ?_ ?_ ?_
              · rfl
              · rfl
              · rfl
              · exact HL.out
              · exact hsrc.out
              · omega
              intro A4 c4 W4 hO4 hg4 hat4
              have HN := hid (HT.out.next hO4 hg4 hat4 Hok.out Hcn.out)
              have hc4 := HT.out.pend hg4
              obtain ⟨e0, e1, e2, ef⟩ := hc4
              clear hO4 hg4 hat4
              refine hQ.out _ _ ⟨e0, e1⟩ (fun hHeld => ?_)
              clear hQ
              simp only [Act.put, List.setIfInBounds_toArray, List.set_cons_zero, List.set_cons_succ]
              refine takeL (i := 14) (v := ?_) rfl (by kernel_rfl) (by kernel_rfl) (by kernel_rfl) (fun _ _ _ h => h) (Or.inl ⟨by rfl, ?_⟩) (by assumption) ?_
              rotate_left
              focus (intro w hSw; go_simp; try with_reducible rfl)
              simp only [Act.put, List.setIfInBounds_toArray, List.set_cons_zero, List.set_cons_succ]
              refine callL (i := 15) (by kernel_rfl) rfl (fun K hQ => ?_)
              go_simp
              refine hQ.out _ _ ⟨HN.out.pb.cells.1, HN.out.pb.cells.2.1⟩ (fun hHeld => ?_)
              clear hQ
              refine wpAnyH_done (by kernel_rfl) ?_ _
              go_wp2_with fail
              go_roundw
              case rel => exact ⟨r, t2, _, T ++ [Ls], by simp; omega, by first | rfl | simp [HRd.out], HN, by simp; omega⟩
              case measure => simp [intOf]; omega
      · go_simp
        go_at_call 23
        with_reducible refine (pick_any _ _ t 5 _ HT.out.pb.mkr (by omega) (by omega)).mono ?_
        rintro e x ⟨cq, rfl, cq0, cq1, hM, hg⟩
        obtain ⟨cn, rfl⟩ : ∃ cn : Nat, cq = cn := ⟨cq.toNat, by omega⟩
        have HT := hid (HT.out.call hM hg)
        clear hM hg h0 h1 h2
        obtain ⟨h0, h1, h2, -⟩ := HT.out.pb.cells
        refine hQ.out _ _ ⟨h0, h1⟩ (fun hHeld => ?_)
        clear hQ
        refine callL2 (i := 1) (j := 11) (by kernel_rfl) rfl rfl (fun K hQ => ?_) (fun K hQ => ?_)
        · go_simp
          refine hQ.out _ _ ⟨h0, h1⟩ (fun hHeld => ?_)
          clear hQ
          refine callL (i := 11) (by kernel_rfl) rfl (fun K hQ => ?_)
          · go_simp
            go_at_call 24
            have hp4 : cn * cB 2 ≤ 4 * cB 2 := Nat.mul_le_mul_right _ (by omega)
            have ht4 : cn * tB 2 ≤ 4 * tB 2 := Nat.mul_le_mul_right _ (by omega)
            have HC := HS.out 2 cn (t + 1) x rfl (by omega) HT.out.pb.mkr (HK.out.keep fun b o hb => HT.out.pb.bl.cell (p := ⟨b, o, none⟩) hb) (by omega)
            with_reducible refine HC.mono ?_
            rintro e x2 ⟨sa, sc, Ls, t2, rfl, hrow, hlen, hok, hcnt, hM, ht2, hg⟩
            have HL := hid (HT.out.row hg hrow)
            have HT := hid (HT.out.call hM hg)
            rw [Bool.and_eq_true] at hok
            have Hok := hid (okL_mono (m := 20) (by omega) hok.1)
            have Hcn : Hid (SmL Ls) := ⟨Nat.le_trans hcnt (Nat.le_trans hp4 hcB), hok.2⟩
            have ht2' : t2 ≤ t + 4000 := by omega
            clear hM hg hrow hlen hok hcnt hp4 ht4 ht2 h0 h1 h2
            obtain ⟨h0, h1, h2, -⟩ := HT.out.pb.cells
            refine hQ.out _ _ ⟨h0, h1⟩ (fun hHeld => ?_)
            clear hQ
            refine callL (i := 12) (by kernel_rfl) rfl (fun K hQ => ?_)
            · go_simp
              generalize hWn : World.alloc x2 _ = x'
              have hsrc : Hid (∃ A c, Value.slice (some ⟨x2.heap.size, 0, none⟩) 1 1 = .slice A 1 c ∧ SrcAt x' 1 A 1 [.slice sa Ls.length sc]) := by subst hWn; exact ⟨_, _, rfl, src_new rfl⟩
              have HT : Hid (PT w wd x' (w.heap.size + 1) t2 P V q dom v T) := by subst hWn; exact HT.out.alloc _
              have HL : Hid (Pnd wd x' v T sa sc Ls) := by subst hWn; exact HL.out.alloc _
              clear hWn h0 h1 h2
              obtain ⟨h0, h1, h2, -⟩ := HT.out.pb.cells
              refine hQ.out _ _ ⟨h0, h1⟩ (fun hHeld => ?_)
              clear hQ
              refine callL (i := 13) (by kernel_rfl) rfl (fun K hQ => ?_)
              refine step_tsP (wc := wd) (.tmp 28) (.tmp 39) v T Ls sa sc ?_ ?_ ?_ ?_ ?_ ?_ ?_
              · rfl
              · rfl
              · rfl
              · exact HL.out
              · exact hsrc.out
              · omega
              intro A4 c4 W4 hO4 hg4 hat4
              have HN := hid (HT.out.next hO4 hg4 hat4 Hok.out Hcn.out)
              have hc4 := HT.out.pend hg4
              obtain ⟨e0, e1, e2, ef⟩ := hc4
              clear hO4 hg4 hat4
              refine hQ.out _ _ ⟨e0, e1⟩ (fun hHeld => ?_)
              clear hQ
              simp only [Act.put, List.setIfInBounds_toArray, List.set_cons_zero, List.set_cons_succ]
              refine takeL (i := 14) (v := ?_) rfl (by kernel_rfl) (by kernel_rfl) (by kernel_rfl) (fun _ _ _ h => h) (Or.inl ⟨by rfl, ?_⟩) (by assumption) ?_
              rotate_left
              focus (intro w hSw; go_simp; try with_reducible rfl)
              simp only [Act.put, List.setIfInBounds_toArray, List.set_cons_zero, List.set_cons_succ]
              refine callL (i := 15) (by kernel_rfl) rfl (fun K hQ => ?_)
              go_simp
              refine hQ.out _ _ ⟨HN.out.pb.cells.1, HN.out.pb.cells.2.1⟩ (fun hHeld => ?_)
              clear hQ
              refine wpAnyH_done (by kernel_rfl) ?_ _
              go_wp2_with fail
              go_roundw
              case rel => exact ⟨r, t2, _, T ++ [Ls], by simp; omega, by first | rfl | simp [HRd.out], HN, by simp; omega⟩
              case measure => simp [intOf]; omega
        · go_simp
          go_at_call 24
          have hp4 : cn * cB 2 ≤ 4 * cB 2 := Nat.mul_le_mul_right _ (by omega)
          have ht4 : cn * tB 2 ≤ 4 * tB 2 := Nat.mul_le_mul_right _ (by omega)
          have HC := HS.out 2 cn (t + 1) x rfl (by omega) HT.out.pb.mkr (HK.out.keep fun b o hb => HT.out.pb.bl.cell (p := ⟨b, o, none⟩) hb) (by omega)
          with_reducible refine HC.mono ?_
          rintro e x2 ⟨sa, sc, Ls, t2, rfl, hrow, hlen, hok, hcnt, hM, ht2, hg⟩
          have HL := hid (HT.out.row hg hrow)
          have HT := hid (HT.out.call hM hg)
          rw [Bool.and_eq_true] at hok
          have Hok := hid (okL_mono (m := 20) (by omega) hok.1)
          have Hcn : Hid (SmL Ls) := ⟨Nat.le_trans hcnt (Nat.le_trans hp4 hcB), hok.2⟩
          have ht2' : t2 ≤ t + 4000 := by omega
          clear hM hg hrow hlen hok hcnt hp4 ht4 ht2 h0 h1 h2
          obtain ⟨h0, h1, h2, -⟩ := HT.out.pb.cells
          refine hQ.out _ _ ⟨h0, h1⟩ (fun hHeld => ?_)
          clear hQ
          refine callL2 (i := 1) (j := 12) (by kernel_rfl) rfl rfl (fun K hQ => ?_) (fun K hQ => ?_)
          · go_simp
            refine hQ.out _ _ ⟨h0, h1⟩ (fun hHeld => ?_)
            clear hQ
            refine callL (i := 12) (by kernel_rfl) rfl (fun K hQ => ?_)
            · go_simp
              generalize hWn : World.alloc x2 _ = x'
              have hsrc : Hid (∃ A c, Value.slice (some ⟨x2.heap.size, 0, none⟩) 1 1 = .slice A 1 c ∧ SrcAt x' 1 A 1 [.slice sa Ls.length sc]) := by subst hWn; exact ⟨_, _, rfl, src_new rfl⟩
              have HT : Hid (PT w wd x' (w.heap.size + 1) t2 P V q dom v T) := by subst hWn; exact HT.out.alloc _
              have HL : Hid (Pnd wd x' v T sa sc Ls) := by subst hWn; exact HL.out.alloc _
              clear hWn h0 h1 h2
              obtain ⟨h0, h1, h2, -⟩ := HT.out.pb.cells
              refine hQ.out _ _ ⟨h0, h1⟩ (fun hHeld => ?_)
              clear hQ
              refine callL (i := 13) (by kernel_rfl) rfl (fun K hQ => ?_)
              refine step_tsP (wc := wd) (.tmp 28) (.tmp 39) v T Ls sa sc ?_ ?_ ?_ ?_ ?_ ?_ ?_
              · rfl
              · rfl
              · rfl
              · exact HL.out
              · exact hsrc.out
              · omega
              intro A4 c4 W4 hO4 hg4 hat4
              have HN := hid (HT.out.next hO4 hg4 hat4 Hok.out Hcn.out)
              have hc4 := HT.out.pend hg4
              obtain ⟨e0, e1, e2, ef⟩ := hc4
              clear hO4 hg4 hat4
              refine hQ.out _ _ ⟨e0, e1⟩ (fun hHeld => ?_)
              clear hQ
              simp only [Act.put, List.setIfInBounds_toArray, List.set_cons_zero, List.set_cons_succ]
              refine takeL (i := 14) (v := ?_) rfl (by kernel_rfl) (by kernel_rfl) (by kernel_rfl) (fun _ _ _ h => h) (Or.inl ⟨by rfl, ?_⟩) (by assumption) ?_
              rotate_left
              focus (intro w hSw; go_simp; try with_reducible rfl)
              simp only [Act.put, List.setIfInBounds_toArray, List.set_cons_zero, List.set_cons_succ]
              refine callL (i := 15) (by kernel_rfl) rfl (fun K hQ => ?_)
              go_simp
              refine hQ.out _ _ ⟨HN.out.pb.cells.1, HN.out.pb.cells.2.1⟩ (fun hHeld => ?_)
              clear hQ
              refine wpAnyH_done (by kernel_rfl) ?_ _
              go_wp2_with fail
              go_roundw
              case rel => exact ⟨r, t2, _, T ++ [Ls], by simp; omega, by first | rfl | simp [HRd.out], HN, by simp; omega⟩
              case measure => simp [intOf]; omega
          · go_simp
            generalize hWn : World.alloc x2 _ = x'
            have hsrc : Hid (∃ A c, Value.slice (some ⟨x2.heap.size, 0, none⟩) 1 1 = .slice A 1 c ∧ SrcAt x' 1 A 1 [.slice sa Ls.length sc]) := by subst hWn; exact ⟨_, _, rfl, src_new rfl⟩
            have HT : Hid (PT w wd x' (w.heap.size + 1) t2 P V q dom v T) := by subst hWn; exact HT.out.alloc _
            have HL : Hid (Pnd wd x' v T sa sc Ls) := by subst hWn; exact HL.out.alloc _
            clear hWn h0 h1 h2
            obtain ⟨h0, h1, h2, -⟩ := HT.out.pb.cells
            refine hQ.out _ _ ⟨h0, h1⟩ (fun hHeld => ?_)
            clear hQ
            refine callL (i := 1) (by kernel_rfl) rfl (fun K hQ => ?_)
            · go_simp
              refine hQ.out _ _ ⟨h0, h1⟩ (fun hHeld => ?_)
              clear hQ
              refine callL (i := 13) (by kernel_rfl) rfl (fun K hQ => ?_)
              refine step_tsP (wc := wd) (.tmp 28) (.tmp 39) v T Ls sa sc ?_ ?_ ?_ ?_ ?_ ?_ ?_
              · rfl
              · rfl
              · rfl
              · exact HL.out
              · exact hsrc.out
              · omega
              intro A4 c4 W4 hO4 hg4 hat4
              have HN := hid (HT.out.next hO4 hg4 hat4 Hok.out Hcn.out)
              have hc4 := HT.out.pend hg4
              obtain ⟨e0, e1, e2, ef⟩ := hc4
              clear hO4 hg4 hat4
              refine hQ.out _ _ ⟨e0, e1⟩ (fun hHeld => ?_)
              clear hQ
              simp only [Act.put, List.setIfInBounds_toArray, List.set_cons_zero, List.set_cons_succ]
              refine takeL (i := 14) (v := ?_) rfl (by kernel_rfl) (by kernel_rfl) (by kernel_rfl) (fun _ _ _ h => h) (Or.inl ⟨by rfl, ?_⟩) (by assumption) ?_
              rotate_left
              focus (intro w hSw; go_simp; try with_reducible rfl)
              simp only [Act.put, List.setIfInBounds_toArray, List.set_cons_zero, List.set_cons_succ]
              refine callL (i := 15) (by kernel_rfl) rfl (fun K hQ => ?_)
              go_simp
              refine hQ.out _ _ ⟨HN.out.pb.cells.1, HN.out.pb.cells.2.1⟩ (fun hHeld => ?_)
              clear hQ
              refine wpAnyH_done (by kernel_rfl) ?_ _
              go_wp2_with fail
              go_roundw
              case rel => exact ⟨r, t2, _, T ++ [Ls], by simp; omega, by first | rfl | simp [HRd.out], HN, by simp; omega⟩
              case measure => simp [intOf]; omega
    · obtain rfl : r = 0 := by omega
      obtain ⟨va, vc, rfl⟩ := HT.out.ts.sl
      have hPB := HT.out.pb
      obtain ⟨h0, h1, h2, -⟩ := hPB.cells
      have y0 := cell_of_heap (j := 0) hPB.hR
      have y1 := cell_of_heap (j := 1) hPB.hR
      have y2 := cell_of_heap (j := 2) hPB.hR
      simp only [z3] at y0 y1 y2
      simp at y0 y1 y2
      have zR := fun j => unfrozen (j := j) hPB.hR
      have lR := (Array.getElem?_eq_some_iff.1 hPB.hR).1
      have fin := hid (HT.out.fin hq1 hq3 hd2 hd4 (by omega) (by omega))
      have hR5 : (((wr.setCell ⟨w.heap.size, 0, none⟩ (.slice (some ⟨V, 0, none⟩) q 3)).setCell ⟨w.heap.size, 1, none⟩ (.int .i64 dom)).setCell ⟨w.heap.size, 2, none⟩ (.slice va T.length vc)).heap[w.heap.size]? = some (.cells #[.slice (some ⟨V, 0, none⟩) q 3, .int .i64 dom, .slice va T.length vc] 27 (0, 0)) := by
        have hR4 := hPB.hR
        simp [World.setCell, Array.getElem?_modify, hR4, z3]
      have g0 := hid (cell_of_heap (j := 0) hR5)
      have g1 := hid (cell_of_heap (j := 1) hR5)
      have g2 := hid (cell_of_heap (j := 2) hR5)
      clear hPB HT hR5
      go_wp2_with fail
      refine bodyPost_ret (v := .agg #[.slice (some ⟨V, 0, none⟩) q 3, .int .i64 dom, .slice va T.length vc]) ?_ rfl fin.out
      simp [results, Tryz.results10, go_sem, g0.out, g1.out, g2.out]
end Go.Proofs.YtphlbbnmligadaaGreatDoor
