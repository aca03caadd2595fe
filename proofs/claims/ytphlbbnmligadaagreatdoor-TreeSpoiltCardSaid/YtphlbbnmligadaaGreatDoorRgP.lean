/- What programs may be: the program's word. -/
import Derived.Test.YtphlbbnmligadaaGreatDoorBunW
import Derived.Test.YtphlbbnmligadaaGreatDoorBunR
import Derived.Test.YtphlbbnmligadaaGreatDoorBunM
import Derived.Deep.RegionHeld3
import Derived.Deep.CutRange
import Derived.Deep.RegionLaw
import Derived.BigRegion
namespace Go.Proofs.YtphlbbnmligadaaGreatDoor
open Go.RowKit

theorem holds_lt {w : World} {g : Nat} {d : Array (List UInt8)} (h : Sort.Holds encStr w g 0 d) (h0 : 0 < d.size) : g ≤ w.heap.size := by
  have h1 := (h 0 h0).1
  unfold World.cell? at h1
  rcases Nat.lt_or_ge g w.heap.size with h2 | h2
  · omega
  · rw [Array.getElem?_eq_none h2] at h1
    simp at h1
theorem bx_kept {wc w1 : World} {v : Value} {T : TypeId} (hb : Below (wc.drew.alloc (.cells #[v] T)).heap.size (wc.drew.alloc (.cells #[v] T)) w1) : w1.cell? ⟨wc.heap.size, 0, none⟩ = some v ∧ w1.frozen? ⟨wc.heap.size, 0, none⟩ = false ∧ wc.heap.size < w1.heap.size :=
  ⟨(hb.cell (p := ⟨_, 0, none⟩) (by simp)).trans (by go_simp), (World.frozen?_of_block (a := ⟨_, 0, none⟩) (hb.block _ (by simp))).trans (by go_simp), by have := hb.size; simp at this; omega⟩

theorem bx_kept' {wc w1 : World} {v : Value} {T : TypeId} (hb : Below ((wc.alloc (.cells #[v] T)).drew).heap.size ((wc.alloc (.cells #[v] T)).drew) w1) : w1.cell? ⟨wc.heap.size, 0, none⟩ = some v ∧ w1.frozen? ⟨wc.heap.size, 0, none⟩ = false ∧ wc.heap.size < w1.heap.size :=
  ⟨(hb.cell (p := ⟨_, 0, none⟩) (by simp)).trans (by go_simp), (World.frozen?_of_block (a := ⟨_, 0, none⟩) (hb.block _ (by simp))).trans (by go_simp), by have := hb.size; simp at this; omega⟩

/-- The checker has been made. -/
def RgCk (W0 : World) (vars dom : Int) (v : Value) (wx : World) : Prop :=
  ∃ pb cb mb, v = .pointer (some ⟨pb, 0, none⟩) ∧ pb < wx.heap.size ∧ pb ≠ cb ∧ wx.cell? ⟨pb, 0, none⟩ = some (.pointer (some ⟨cb, 0, none⟩)) ∧ Ck wx cb mb vars dom 0 ∧ Kp W0 wx ∧ W0.heap.size ≤ cb
theorem map_lt {w : World} {mb : Nat} {l : List (Int × Value)} (h : MapIs w mb l) : mb < w.heap.size := by
  obtain ⟨es, clock, hb, he⟩ := h
  exact (Array.getElem?_eq_some_iff.1 hb).1
theorem rg1 {W0 w1 : World} {vars dom : Int} {mb : Nat} (hM : MapIs w1 mb formsL) (hK : Kp W0 w1) {T T' : TypeId} :
    RgCk W0 vars dom (.pointer (some ⟨w1.heap.size, 0, none⟩)) ((w1.alloc (.cells #[.pointer (some ⟨w1.heap.size + 1, 0, none⟩)] T)).alloc (.cells #[.int .i64 vars, .int .i64 dom, .int .i64 0, .map (some mb)] T')) := by
  have := map_lt hM
  exact ⟨w1.heap.size, w1.heap.size + 1, mb, rfl, by simp; omega, by omega, by go_simp, ⟨by simp, by omega, (hM.alloc _).alloc _, by go_simp, by go_simp, by go_simp, by go_simp, fun o => by go_simp⟩, (hK.alloc _).alloc _, by have := hK.1.size; omega⟩
theorem rg3 {W0 w1 : World} {vars dom : Int} {mb : Nat} (hM : MapIs w1 mb formsL) (hK : Kp W0 w1) {T T' : TypeId} :
    RgCk W0 vars dom (.pointer (some ⟨w1.heap.size + 1, 0, none⟩)) ((w1.alloc (.cells #[.int .i64 vars, .int .i64 dom, .int .i64 0, .map (some mb)] T')).alloc (.cells #[.pointer (some ⟨w1.heap.size, 0, none⟩)] T)) := by
  have := map_lt hM
  exact ⟨w1.heap.size + 1, w1.heap.size, mb, rfl, by simp, by omega, by go_simp, ⟨by simp; omega, by omega, (hM.alloc _).alloc _, by go_simp, by go_simp, by go_simp, by go_simp, fun o => by go_simp⟩, (hK.alloc _).alloc _, by have := hK.1.size; omega⟩
theorem rg2 {W0 wc w1 : World} {vars dom : Int} {mb : Nat} (hM : MapIs w1 mb formsL) (hK : Kp W0 w1) (h0 : W0.heap.size ≤ wc.heap.size) (x0 : w1.cell? ⟨wc.heap.size, 0, none⟩ = some (.pointer none)) (x3 : wc.heap.size < w1.heap.size) (hm : wc.heap.size + 1 ≤ mb) {T' : TypeId} :
    RgCk W0 vars dom (.pointer (some ⟨wc.heap.size, 0, none⟩)) ((w1.setCell ⟨wc.heap.size, 0, none⟩ (.pointer (some ⟨w1.heap.size, 0, none⟩))).alloc (.cells #[.int .i64 vars, .int .i64 dom, .int .i64 0, .map (some mb)] T')) := by
  have := map_lt hM
  have hK2 : Kp W0 (w1.setCell ⟨wc.heap.size, 0, none⟩ (.pointer (some ⟨w1.heap.size, 0, none⟩))) := .of ⟨hK.1.os, hK.1.tape, hK.1.output, by simpa using hK.1.size, fun k hk => (Below.heap_setCell _ _ _ _ (by simp; omega)).trans (hK.1.block k hk)⟩
  have hM2 : MapIs (w1.setCell ⟨wc.heap.size, 0, none⟩ (.pointer (some ⟨w1.heap.size, 0, none⟩))) mb formsL := by
    obtain ⟨es, clock, hb, he⟩ := hM
    exact ⟨es, clock, (Below.heap_setCell _ _ _ _ (by simp; omega)).trans hb, he⟩
  exact ⟨wc.heap.size, w1.heap.size, mb, rfl, by simp; omega, by omega, by go_simp, ⟨by simp, by omega, hM2.alloc _, by go_simp, by go_simp, by go_simp, by go_simp, fun o => by go_simp⟩, hK2.alloc _, by have := hK.1.size; omega⟩

set_option maxRecDepth 100000 in
set_option maxHeartbeats 8000000 in
theorem pRight_any (p : Pg) (cs : List Value) (w : World) (hin : PgIn w (In_ w) cs p) :
    Calls Tryz.prog 22 #[.agg cs.toArray] w fun e w' => e = .returned (.bool (rightP p)) ∧ Below w.heap.size w w' := by
  obtain ⟨va, cv, ta, ct, rfl, hv, ht, hwf⟩ := hin
  have hres := hid (rightP_eq p)
  obtain ⟨vars, dom, ths⟩ := p
  simp only at hv ht hwf hres
  have hvc := hv.le
  have hvm := hv.mx
  have htc := ht.le
  have htm := ht.mx
  unfold maxLen at hvm htm
  have hB : Below w.heap.size w (w.alloc (.cells #[.slice va vars.length cv, .int .i64 dom, .slice ta ths.length ct] 27)) := (Below.refl _ _).alloc (Nat.le_refl _) _
  have Hv := hid ((Kp.of hB).vr hv)
  have Ht := hid ((Kp.of hB).ts ht)
  clear hv ht
  go_enter Tryz.func22, Tryz.ntmps22
  go_wp2_with fail
  have HB := hid hB
  clear hB
  generalize hW : World.alloc w _ = W0 at *
  have z0 : w.heap.size < W0.heap.size := by subst hW; simp
  have c0 : W0.cell? ⟨w.heap.size, 0, none⟩ = some (.slice va vars.length cv) := by subst hW; go_simp
  have c1 : W0.cell? ⟨w.heap.size, 1, none⟩ = some (.int .i64 dom) := by subst hW; go_simp
  have c2 : W0.cell? ⟨w.heap.size, 2, none⟩ = some (.slice ta ths.length ct) := by subst hW; go_simp
  clear hW
  go_cut [32] from 5 to 32 (fun v wx => v = .bool (!(decide (1 ≤ vars.length) && decide (vars.length ≤ 4) && vars.all nameB && decide vars.Nodup)) ∧ Kp W0 wx)
  case first =>
    by_cases l1 : vars.length < 1
    · have hr : Hid ((!(decide (1 ≤ vars.length) && decide (vars.length ≤ 4) && vars.all nameB && decide vars.Nodup)) = true) := by show _ = _; rw [decide_eq_false (show ¬ 1 ≤ vars.length by omega)]; simp
      have l1' : (vars.length : Int) < 1 := by omega
      clear l1
      go_quiet (fail)
      go_wp2_with fail
      go_meet
      case rel => exact ⟨by rw [hr.out], drewN_kp (Kp.refl _) _⟩
    by_cases l4 : 4 < vars.length
    · have hr : Hid ((!(decide (1 ≤ vars.length) && decide (vars.length ≤ 4) && vars.all nameB && decide vars.Nodup)) = true) := by show _ = _; rw [decide_eq_false (show ¬ vars.length ≤ 4 by omega)]; simp
      have l1' : ¬ (vars.length : Int) < 1 := by omega
      have l4' : (4 : Int) < vars.length := by omega
      clear l1 l4
      go_quiet (fail)
      go_wp2_with fail
      go_meet
      case rel => exact ⟨by rw [hr.out], drewN_kp (Kp.refl _) _⟩
    have l1' : decide ((vars.length : Int) < 1) = false := decide_eq_false (by omega)
    have l4' : decide ((4 : Int) < vars.length) = false := decide_eq_false (by omega)
    have hl1 := hid (show 1 ≤ vars.length by omega)
    have hl4 := hid (show vars.length ≤ 4 by omega)
    have hr : Hid ((!(decide (1 ≤ vars.length) && decide (vars.length ≤ 4) && vars.all nameB && decide vars.Nodup)) = !(vars.all nameB && decide vars.Nodup)) := by
      show _ = _
      rw [decide_eq_true hl1.out, decide_eq_true hl4.out]; rfl
    clear l1 l4
    have hcall : Hid (∀ W, Kp W0 W → Calls Tryz.prog 42 #[.slice va vars.length cv, .func (.func 40) #[] #[]] W fun e w' => e = .returned (.bool (!vars.all nameB)) ∧ Below W.heap.size W w') := fun W hW => ncontains_any va cv vars W (hW.vr Hv.out)
    cases hall : vars.all nameB
    · rw [hall] at hcall hr
      have Hall := hid hall
      clear hall
      have hcl : Hid (Calls Tryz.prog 42 #[.slice va vars.length cv, .func (.func 40) #[] #[]] W0.drew fun e w' => e = .returned (.bool true) ∧ Below W0.drew.heap.size W0.drew w') := hcall.out _ (Kp.start W0)
      refine wp_region_held_drew (S := Kp W0) (by kernel_rfl) (Kp.start W0) (fun hHeld => ?_)
      refine takeL (i := 0) (v := ?_) rfl (by kernel_rfl) (by kernel_rfl) (by kernel_rfl) (fun _ _ _ h => h) (Or.inl ⟨by rfl, ?_⟩) (by assumption) ?_
      rotate_left
      focus (intro w hSw; go_simp; try with_reducible rfl)
      simp only [Act.put, List.setIfInBounds_toArray, List.set_cons_zero, List.set_cons_succ]
      refine takeL (i := 1) (v := ?_) rfl (by kernel_rfl) (by kernel_rfl) (by kernel_rfl) (fun _ _ _ h => h) (Or.inl ⟨by rfl, ?_⟩) (by assumption) ?_
      rotate_left
      focus (intro w hSw; go_simp; try with_reducible rfl)
      simp only [Act.put, List.setIfInBounds_toArray, List.set_cons_zero, List.set_cons_succ]
      refine takeL (i := 2) (v := ?_) rfl (by kernel_rfl) (by kernel_rfl) (by kernel_rfl) (fun _ _ _ h => h) (Or.inl ⟨by rfl, ?_⟩) (by assumption) ?_
      rotate_left
      focus (intro w hSw; go_simp; try with_reducible rfl)
      simp only [Act.put, List.setIfInBounds_toArray, List.set_cons_zero, List.set_cons_succ]
      refine takeL (i := 3) (v := ?_) rfl (by kernel_rfl) (by kernel_rfl) (by kernel_rfl) (fun _ _ _ h => h) (Or.inl ⟨by rfl, ?_⟩) (by assumption) ?_
      rotate_left
      focus (intro w hSw; go_simp; try with_reducible rfl)
      simp only [Act.put, List.setIfInBounds_toArray, List.set_cons_zero, List.set_cons_succ]
      refine takeL (i := 4) (v := ?_) rfl (by kernel_rfl) (by kernel_rfl) (by kernel_rfl) (fun _ _ _ h => h) (Or.inl ⟨by rfl, ?_⟩) (by assumption) ?_
      rotate_left
      focus (intro w hSw; go_simp; try with_reducible rfl)
      simp only [Act.put, List.setIfInBounds_toArray, List.set_cons_zero, List.set_cons_succ]
      refine takeL (i := 5) (v := ?_) rfl (by kernel_rfl) (by kernel_rfl) (by kernel_rfl) (fun _ _ _ h => h) (Or.inl ⟨by rfl, ?_⟩) (by assumption) ?_
      rotate_left
      focus (intro w hSw; go_simp; try with_reducible rfl)
      simp only [Act.put, List.setIfInBounds_toArray, List.set_cons_zero, List.set_cons_succ]
      refine takeL (i := 6) (v := ?_) rfl (by kernel_rfl) (by kernel_rfl) (by kernel_rfl) (fun _ _ _ h => h) (Or.inl ⟨by rfl, ?_⟩) (by assumption) ?_
      rotate_left
      focus (intro w hSw; go_simp; try with_reducible rfl)
      simp only [Act.put, List.setIfInBounds_toArray, List.set_cons_zero, List.set_cons_succ]
      refine takeL (i := 7) (v := ?_) rfl (by kernel_rfl) (by kernel_rfl) (by kernel_rfl) (fun _ _ _ h => h) (Or.inl ⟨by rfl, ?_⟩) (by assumption) ?_
      rotate_left
      focus (intro w hSw; go_simp; try with_reducible rfl)
      simp only [Act.put, List.setIfInBounds_toArray, List.set_cons_zero, List.set_cons_succ]
      refine takeL (i := 8) (v := ?_) rfl (by kernel_rfl) (by kernel_rfl) (by kernel_rfl) (fun _ _ _ h => h) (Or.inl ⟨by rfl, ?_⟩) (by assumption) ?_
      rotate_left
      focus (intro w hSw; go_simp; try with_reducible rfl)
      simp only [Act.put, List.setIfInBounds_toArray, List.set_cons_zero, List.set_cons_succ]
      refine takeL (i := 9) (v := ?_) rfl (by kernel_rfl) (by kernel_rfl) (by kernel_rfl) (fun _ _ _ h => h) (Or.inl ⟨by rfl, ?_⟩) (by assumption) ?_
      rotate_left
      focus (intro w hSw; go_simp; try with_reducible rfl)
      simp only [Act.put, List.setIfInBounds_toArray, List.set_cons_zero, List.set_cons_succ]
      refine takeL (i := 10) (v := ?_) rfl (by kernel_rfl) (by kernel_rfl) (by kernel_rfl) (fun _ _ _ h => h) (Or.inl ⟨by rfl, ?_⟩) (by assumption) ?_
      rotate_left
      focus (intro w hSw; go_simp; try with_reducible rfl)
      simp only [Act.put, List.setIfInBounds_toArray, List.set_cons_zero, List.set_cons_succ]
      refine takeL (i := 11) (v := ?_) rfl (by kernel_rfl) (by kernel_rfl) (by kernel_rfl) (fun _ _ _ h => h) (Or.inl ⟨by rfl, ?_⟩) (by assumption) ?_
      rotate_left
      focus (intro w hSw; go_simp; try with_reducible rfl)
      simp only [Act.put, List.setIfInBounds_toArray, List.set_cons_zero, List.set_cons_succ]
      refine takeL (i := 12) (v := ?_) rfl (by kernel_rfl) (by kernel_rfl) (by kernel_rfl) (fun _ _ _ h => h) (Or.inl ⟨by rfl, ?_⟩) (by assumption) ?_
      rotate_left
      focus (intro w hSw; go_simp; try with_reducible rfl)
      simp only [Act.put, List.setIfInBounds_toArray, List.set_cons_zero, List.set_cons_succ]
      refine takeL (i := 13) (v := ?_) rfl (by kernel_rfl) (by kernel_rfl) (by kernel_rfl) (fun _ _ _ h => h) (Or.inl ⟨by rfl, ?_⟩) (by assumption) ?_
      rotate_left
      focus (intro w hSw; go_simp; try with_reducible rfl)
      simp only [Act.put, List.setIfInBounds_toArray, List.set_cons_zero, List.set_cons_succ]
      refine callL (i := 14) (by kernel_rfl) rfl (fun K hK => ?_)
      go_simp
      go_at_call 42
      with_reducible refine hcl.out.mono ?_
      rintro e w1 ⟨rfl, hb1⟩
      have hK1 : Kp W0 w1 := Kp.next (Kp.start W0) hb1
      refine hK.out _ _ hK1 (fun hHeld => ?_)
      clear hK
      refine takeL (i := 15) (v := ?_) rfl (by kernel_rfl) (by kernel_rfl) (by kernel_rfl) (fun _ _ _ h => h) (Or.inl ⟨by rfl, ?_⟩) (by assumption) ?_
      rotate_left
      focus (intro w hSw; go_simp; try with_reducible rfl)
      simp only [Act.put, List.setIfInBounds_toArray, List.set_cons_zero, List.set_cons_succ]
      refine takeL (i := 16) (v := ?_) rfl (by kernel_rfl) (by kernel_rfl) (by kernel_rfl) (fun _ _ _ h => h) (Or.inl ⟨by rfl, ?_⟩) (by assumption) ?_
      rotate_left
      focus (intro w hSw; go_simp; try with_reducible rfl)
      simp only [Act.put, List.setIfInBounds_toArray, List.set_cons_zero, List.set_cons_succ]
      refine takeL (i := 17) (v := undef) rfl (by kernel_rfl) (by kernel_rfl) (by kernel_rfl) (fun _ _ _ h => h) (Or.inr ⟨by rfl, rfl⟩) (by assumption) ?_
      simp only [Act.put, List.setIfInBounds_toArray, List.set_cons_zero, List.set_cons_succ]
      refine takeL (i := 18) (v := undef) rfl (by kernel_rfl) (by kernel_rfl) (by kernel_rfl) (fun _ _ _ h => h) (Or.inr ⟨by rfl, rfl⟩) (by assumption) ?_
      simp only [Act.put, List.setIfInBounds_toArray, List.set_cons_zero, List.set_cons_succ]
      refine takeL (i := 19) (v := undef) rfl (by kernel_rfl) (by kernel_rfl) (by kernel_rfl) (fun _ _ _ h => h) (Or.inr ⟨by rfl, rfl⟩) (by assumption) ?_
      simp only [Act.put, List.setIfInBounds_toArray, List.set_cons_zero, List.set_cons_succ]
      refine takeL (i := 20) (v := undef) rfl (by kernel_rfl) (by kernel_rfl) (by kernel_rfl) (fun _ _ _ h => h) (Or.inr ⟨by rfl, rfl⟩) (by assumption) ?_
      simp only [Act.put, List.setIfInBounds_toArray, List.set_cons_zero, List.set_cons_succ]
      refine takeL (i := 21) (v := undef) rfl (by kernel_rfl) (by kernel_rfl) (by kernel_rfl) (fun _ _ _ h => h) (Or.inr ⟨by rfl, rfl⟩) (by assumption) ?_
      simp only [Act.put, List.setIfInBounds_toArray, List.set_cons_zero, List.set_cons_succ]
      refine takeL (i := 22) (v := undef) rfl (by kernel_rfl) (by kernel_rfl) (by kernel_rfl) (fun _ _ _ h => h) (Or.inr ⟨by rfl, rfl⟩) (by assumption) ?_
      simp only [Act.put, List.setIfInBounds_toArray, List.set_cons_zero, List.set_cons_succ]
      refine takeL (i := 23) (v := undef) rfl (by kernel_rfl) (by kernel_rfl) (by kernel_rfl) (fun _ _ _ h => h) (Or.inr ⟨by rfl, rfl⟩) (by assumption) ?_
      simp only [Act.put, List.setIfInBounds_toArray, List.set_cons_zero, List.set_cons_succ]
      refine takeL (i := 24) (v := undef) rfl (by kernel_rfl) (by kernel_rfl) (by kernel_rfl) (fun _ _ _ h => h) (Or.inr ⟨by rfl, rfl⟩) (by assumption) ?_
      simp only [Act.put, List.setIfInBounds_toArray, List.set_cons_zero, List.set_cons_succ]
      refine takeL (i := 25) (v := undef) rfl (by kernel_rfl) (by kernel_rfl) (by kernel_rfl) (fun _ _ _ h => h) (Or.inr ⟨by rfl, rfl⟩) (by assumption) ?_
      simp only [Act.put, List.setIfInBounds_toArray, List.set_cons_zero, List.set_cons_succ]
      refine takeL (i := 26) (v := undef) rfl (by kernel_rfl) (by kernel_rfl) (by kernel_rfl) (fun _ _ _ h => h) (Or.inr ⟨by rfl, rfl⟩) (by assumption) ?_
      simp only [Act.put, List.setIfInBounds_toArray, List.set_cons_zero, List.set_cons_succ]
      refine takeL (i := 27) (v := ?_) rfl (by kernel_rfl) (by kernel_rfl) (by kernel_rfl) (fun _ _ _ h => h) (Or.inl ⟨by rfl, ?_⟩) (by assumption) ?_
      rotate_left
      focus (intro w hSw; go_simp; try with_reducible rfl)
      simp only [Act.put, List.setIfInBounds_toArray, List.set_cons_zero, List.set_cons_succ]
      refine wpAnyH_done (by kernel_rfl) ?_ _
      go_wp2_with fail
      go_meet
      case rel => exact ⟨by rw [Hall.out, hr.out]; rfl, hK1⟩
    · rw [hall] at hcall hr
      have Hall := hid hall
      clear hall
      have hnd : ∀ n : Nat, (n = vars.length ↔ vars.Nodup) → (((n : Int) != vars.length)) = !decide vars.Nodup := by
        intro n hn
        by_cases h : vars.Nodup
        · rw [hn.2 h]; simp [h]
        · have : ¬ n = vars.length := fun e => h (hn.1 e)
          simp [h]; omega
      have Hnd := hid hnd
      clear hnd
      have hcl : Hid (Calls Tryz.prog 42 #[.slice va vars.length cv, .func (.func 40) #[] #[]] W0.drew fun e w' => e = .returned (.bool false) ∧ Below W0.drew.heap.size W0.drew w') := hcall.out _ (Kp.start W0)
      refine wp_region_held_drew (S := Kp W0) (by kernel_rfl) (Kp.start W0) (fun hHeld => ?_)
      refine takeL (i := 0) (v := ?_) rfl (by kernel_rfl) (by kernel_rfl) (by kernel_rfl) (fun _ _ _ h => h) (Or.inl ⟨by rfl, ?_⟩) (by assumption) ?_
      rotate_left
      focus (intro w hSw; go_simp; try with_reducible rfl)
      simp only [Act.put, List.setIfInBounds_toArray, List.set_cons_zero, List.set_cons_succ]
      refine takeL (i := 1) (v := ?_) rfl (by kernel_rfl) (by kernel_rfl) (by kernel_rfl) (fun _ _ _ h => h) (Or.inl ⟨by rfl, ?_⟩) (by assumption) ?_
      rotate_left
      focus (intro w hSw; go_simp; try with_reducible rfl)
      simp only [Act.put, List.setIfInBounds_toArray, List.set_cons_zero, List.set_cons_succ]
      refine takeL (i := 2) (v := ?_) rfl (by kernel_rfl) (by kernel_rfl) (by kernel_rfl) (fun _ _ _ h => h) (Or.inl ⟨by rfl, ?_⟩) (by assumption) ?_
      rotate_left
      focus (intro w hSw; go_simp; try with_reducible rfl)
      simp only [Act.put, List.setIfInBounds_toArray, List.set_cons_zero, List.set_cons_succ]
      refine takeL (i := 3) (v := ?_) rfl (by kernel_rfl) (by kernel_rfl) (by kernel_rfl) (fun _ _ _ h => h) (Or.inl ⟨by rfl, ?_⟩) (by assumption) ?_
      rotate_left
      focus (intro w hSw; go_simp; try with_reducible rfl)
      simp only [Act.put, List.setIfInBounds_toArray, List.set_cons_zero, List.set_cons_succ]
      refine takeL (i := 4) (v := ?_) rfl (by kernel_rfl) (by kernel_rfl) (by kernel_rfl) (fun _ _ _ h => h) (Or.inl ⟨by rfl, ?_⟩) (by assumption) ?_
      rotate_left
      focus (intro w hSw; go_simp; try with_reducible rfl)
      simp only [Act.put, List.setIfInBounds_toArray, List.set_cons_zero, List.set_cons_succ]
      refine takeL (i := 5) (v := ?_) rfl (by kernel_rfl) (by kernel_rfl) (by kernel_rfl) (fun _ _ _ h => h) (Or.inl ⟨by rfl, ?_⟩) (by assumption) ?_
      rotate_left
      focus (intro w hSw; go_simp; try with_reducible rfl)
      simp only [Act.put, List.setIfInBounds_toArray, List.set_cons_zero, List.set_cons_succ]
      refine takeL (i := 6) (v := ?_) rfl (by kernel_rfl) (by kernel_rfl) (by kernel_rfl) (fun _ _ _ h => h) (Or.inl ⟨by rfl, ?_⟩) (by assumption) ?_
      rotate_left
      focus (intro w hSw; go_simp; try with_reducible rfl)
      simp only [Act.put, List.setIfInBounds_toArray, List.set_cons_zero, List.set_cons_succ]
      refine takeL (i := 7) (v := ?_) rfl (by kernel_rfl) (by kernel_rfl) (by kernel_rfl) (fun _ _ _ h => h) (Or.inl ⟨by rfl, ?_⟩) (by assumption) ?_
      rotate_left
      focus (intro w hSw; go_simp; try with_reducible rfl)
      simp only [Act.put, List.setIfInBounds_toArray, List.set_cons_zero, List.set_cons_succ]
      refine takeL (i := 8) (v := ?_) rfl (by kernel_rfl) (by kernel_rfl) (by kernel_rfl) (fun _ _ _ h => h) (Or.inl ⟨by rfl, ?_⟩) (by assumption) ?_
      rotate_left
      focus (intro w hSw; go_simp; try with_reducible rfl)
      simp only [Act.put, List.setIfInBounds_toArray, List.set_cons_zero, List.set_cons_succ]
      refine takeL (i := 9) (v := ?_) rfl (by kernel_rfl) (by kernel_rfl) (by kernel_rfl) (fun _ _ _ h => h) (Or.inl ⟨by rfl, ?_⟩) (by assumption) ?_
      rotate_left
      focus (intro w hSw; go_simp; try with_reducible rfl)
      simp only [Act.put, List.setIfInBounds_toArray, List.set_cons_zero, List.set_cons_succ]
      refine takeL (i := 10) (v := ?_) rfl (by kernel_rfl) (by kernel_rfl) (by kernel_rfl) (fun _ _ _ h => h) (Or.inl ⟨by rfl, ?_⟩) (by assumption) ?_
      rotate_left
      focus (intro w hSw; go_simp; try with_reducible rfl)
      simp only [Act.put, List.setIfInBounds_toArray, List.set_cons_zero, List.set_cons_succ]
      refine takeL (i := 11) (v := ?_) rfl (by kernel_rfl) (by kernel_rfl) (by kernel_rfl) (fun _ _ _ h => h) (Or.inl ⟨by rfl, ?_⟩) (by assumption) ?_
      rotate_left
      focus (intro w hSw; go_simp; try with_reducible rfl)
      simp only [Act.put, List.setIfInBounds_toArray, List.set_cons_zero, List.set_cons_succ]
      refine takeL (i := 12) (v := ?_) rfl (by kernel_rfl) (by kernel_rfl) (by kernel_rfl) (fun _ _ _ h => h) (Or.inl ⟨by rfl, ?_⟩) (by assumption) ?_
      rotate_left
      focus (intro w hSw; go_simp; try with_reducible rfl)
      simp only [Act.put, List.setIfInBounds_toArray, List.set_cons_zero, List.set_cons_succ]
      refine takeL (i := 13) (v := ?_) rfl (by kernel_rfl) (by kernel_rfl) (by kernel_rfl) (fun _ _ _ h => h) (Or.inl ⟨by rfl, ?_⟩) (by assumption) ?_
      rotate_left
      focus (intro w hSw; go_simp; try with_reducible rfl)
      simp only [Act.put, List.setIfInBounds_toArray, List.set_cons_zero, List.set_cons_succ]
      refine callL (i := 14) (by kernel_rfl) rfl (fun K hK => ?_)
      go_simp
      go_at_call 42
      with_reducible refine hcl.out.mono ?_
      rintro e w1 ⟨rfl, hb1⟩
      have hK1 : Kp W0 w1 := Kp.next (Kp.start W0) hb1
      refine hK.out _ _ hK1 (fun hHeld => ?_)
      clear hK
      refine takeL (i := 15) (v := ?_) rfl (by kernel_rfl) (by kernel_rfl) (by kernel_rfl) (fun _ _ _ h => h) (Or.inl ⟨by rfl, ?_⟩) (by assumption) ?_
      rotate_left
      focus (intro w hSw; go_simp; try with_reducible rfl)
      simp only [Act.put, List.setIfInBounds_toArray, List.set_cons_zero, List.set_cons_succ]
      refine takeL (i := 16) (v := ?_) rfl (by kernel_rfl) (by kernel_rfl) (by kernel_rfl) (fun _ _ _ h => h) (Or.inl ⟨by rfl, ?_⟩) (by assumption) ?_
      rotate_left
      focus (intro w hSw; go_simp; try with_reducible rfl)
      simp only [Act.put, List.setIfInBounds_toArray, List.set_cons_zero, List.set_cons_succ]
      refine takeL (i := 17) (v := ?_) rfl (by kernel_rfl) (by kernel_rfl) (by kernel_rfl) (fun _ _ _ h => h) (Or.inl ⟨by rfl, ?_⟩) (by assumption) ?_
      rotate_left
      focus (intro w hSw; go_simp; try with_reducible rfl)
      simp only [Act.put, List.setIfInBounds_toArray, List.set_cons_zero, List.set_cons_succ]
      refine takeL (i := 18) (v := ?_) rfl (by kernel_rfl) (by kernel_rfl) (by kernel_rfl) (fun _ _ _ h => h) (Or.inl ⟨by rfl, ?_⟩) (by assumption) ?_
      rotate_left
      focus (intro w hSw; go_simp; try with_reducible rfl)
      simp only [Act.put, List.setIfInBounds_toArray, List.set_cons_zero, List.set_cons_succ]
      refine takeL (i := 23) (v := ?_) rfl (by kernel_rfl) (by kernel_rfl) (by kernel_rfl) (fun _ _ _ h => h) (Or.inl ⟨by rfl, ?_⟩) (by assumption) ?_
      rotate_left
      focus (intro w hSw; go_simp; try with_reducible rfl)
      simp only [Act.put, List.setIfInBounds_toArray, List.set_cons_zero, List.set_cons_succ]
      refine takeL (i := 24) (v := ?_) rfl (by kernel_rfl) (by kernel_rfl) (by kernel_rfl) (fun _ _ _ h => h) (Or.inl ⟨by rfl, ?_⟩) (by assumption) ?_
      rotate_left
      focus (intro w hSw; go_simp; try with_reducible rfl)
      simp only [Act.put, List.setIfInBounds_toArray, List.set_cons_zero, List.set_cons_succ]
      refine takeL (i := 25) (v := ?_) rfl (by kernel_rfl) (by kernel_rfl) (by kernel_rfl) (fun _ _ _ h => h) (Or.inl ⟨by rfl, ?_⟩) (by assumption) ?_
      rotate_left
      focus (intro w hSw; go_simp; try with_reducible rfl)
      simp only [Act.put, List.setIfInBounds_toArray, List.set_cons_zero, List.set_cons_succ]
      refine callL (i := 19) (by kernel_rfl) rfl (fun K hK => ?_)
      go_simp
      go_at_call 45
      with_reducible refine (values_any va vars.length cv _).mono ?_
      rintro e w2 ⟨Bs, rfl, hBs, hcs, hb2⟩
      have hk2 : Kp W0 w2 := Kp.next hK1 hb2
      refine hK.out _ _ hk2 (fun hHeld => ?_)
      clear hK
      refine callL (i := 20) (by kernel_rfl) rfl (fun K hK => ?_)
      go_simp
      go_at_call 44
      with_reducible refine (sorted_any Bs va cv vars _ hl1.out hl4.out (Kp.vr hk2 Hv.out) hBs hcs).mono ?_
      rintro e w3 ⟨g, cg, rfl, hg0, hgc, hH, hb3⟩
      have hg1 : g ≤ w3.heap.size ∧ W0.heap.size ≤ g := ⟨holds_lt hH (by have := hl1.out; simp; omega), Nat.le_trans hk2.1.size hg0⟩
      have hk3 : Kp W0 w3 := Kp.next hk2 hb3
      refine hK.out _ _ hk3 (fun hHeld => ?_)
      clear hK
      refine callL (i := 21) (by kernel_rfl) rfl (fun K hK => ?_)
      go_simp
      go_at_call 43
      with_reducible refine (compactS_any g cg vars _ hg1.1 hl4.out hgc hH).mono ?_
      rintro e w4 ⟨nn, cn, rfl, hnn, hnle, hb4⟩
      have hk4 : Kp W0 w4 := Kp.of (hk3.1.trans (hb4.mono hg1.2))
      refine hK.out _ _ hk4 (fun hHeld => ?_)
      clear hK
      refine takeL (i := 22) (v := ?_) rfl (by kernel_rfl) (by kernel_rfl) (by kernel_rfl) (fun _ _ _ h => h) (Or.inl ⟨by rfl, ?_⟩) (by assumption) ?_
      rotate_left
      focus (intro w hSw; go_simp; try with_reducible rfl)
      simp only [Act.put, List.setIfInBounds_toArray, List.set_cons_zero, List.set_cons_succ]
      refine takeL (i := 26) (v := ?_) rfl (by kernel_rfl) (by kernel_rfl) (by kernel_rfl) (fun _ _ _ h => h) (Or.inl ⟨by rfl, ?_⟩) (by assumption) ?_
      rotate_left
      focus (intro w hSw; go_simp; try with_reducible rfl)
      simp only [Act.put, List.setIfInBounds_toArray, List.set_cons_zero, List.set_cons_succ]
      refine takeL (i := 27) (v := ?_) rfl (by kernel_rfl) (by kernel_rfl) (by kernel_rfl) (fun _ _ _ h => h) (Or.inl ⟨by rfl, ?_⟩) (by assumption) ?_
      rotate_left
      focus (intro w hSw; go_simp; try with_reducible rfl)
      simp only [Act.put, List.setIfInBounds_toArray, List.set_cons_zero, List.set_cons_succ]
      refine wpAnyH_done (by kernel_rfl) ?_ _
      have hKp := hk4
      have hq := Hnd.out nn hnn
      go_wp2_with fail
      go_meet
      case rel => exact ⟨by rw [Hall.out, hr.out, hq]; simp, hKp⟩
  case rest =>
  obtain ⟨rfl, hK⟩ := hcut
  have z0' : w.heap.size < wc.heap.size := Nat.lt_of_lt_of_le z0 hK.1.size
  cases hvv : (decide (1 ≤ vars.length) && decide (vars.length ≤ 4) && vars.all nameB && decide vars.Nodup)
  · have hf : Hid (rightP ⟨vars, dom, ths⟩ = false) := by show _ = _; rw [hres.out, hvv]; rfl
    clear hvv
    go_wp2_with fail
    go_ret
    exact ⟨ret_bool (by rw [hf.out]), Kp.fin HB.out hK⟩
  have hres2 : Hid (rightP ⟨vars, dom, ths⟩ = (decide (2 ≤ dom) && decide (dom ≤ 16) && decide (1 ≤ ths.length) && decide (ths.length ≤ 4) && sumT vars.length dom ths)) := by
    show _ = _
    rw [hres.out, hvv]; rfl
  clear hvv hres
  by_cases d2 : dom < 2
  · have hf : Hid (rightP ⟨vars, dom, ths⟩ = false) := by show _ = _; rw [hres2.out, decide_eq_false (show ¬ 2 ≤ dom by omega)]; rfl
    go_wp2_with fail
    go_ret
    exact ⟨ret_bool (by rw [hf.out]), Kp.fin HB.out hK⟩
  by_cases d16 : 16 < dom
  · have hf : Hid (rightP ⟨vars, dom, ths⟩ = false) := by show _ = _; rw [hres2.out, decide_eq_false (show ¬ dom ≤ 16 by omega)]; simp
    go_wp2_with fail
    go_ret
    exact ⟨ret_bool (by rw [hf.out]), Kp.fin HB.out hK⟩
  by_cases t1 : ths.length < 1
  · have hf : Hid (rightP ⟨vars, dom, ths⟩ = false) := by show _ = _; rw [hres2.out, decide_eq_false (show ¬ 1 ≤ ths.length by omega)]; simp
    go_wp2_with fail
    go_ret
    exact ⟨ret_bool (by rw [hf.out]), Kp.fin HB.out hK⟩
  by_cases t4 : 4 < ths.length
  · have hf : Hid (rightP ⟨vars, dom, ths⟩ = false) := by show _ = _; rw [hres2.out, decide_eq_false (show ¬ ths.length ≤ 4 by omega)]; simp
    go_wp2_with fail
    go_ret
    exact ⟨ret_bool (by rw [hf.out]), Kp.fin HB.out hK⟩
  have hres3 : Hid (rightP ⟨vars, dom, ths⟩ = sumT vars.length dom ths) := by
    show _ = _
    rw [hres2.out, decide_eq_true (show 2 ≤ dom by omega), decide_eq_true (show dom ≤ 16 by omega), decide_eq_true (show 1 ≤ ths.length by omega), decide_eq_true (show ths.length ≤ 4 by omega)]
    rfl
  clear hres2
  go_wp2_with fail
  clear d2 d16 t1 t4 Hv
  have hq0 := hK.1.size
  go_cut [4] from 53 to 60 (fun v wx => RgCk W0 vars.length dom v wx)
  case first =>
    go_region_law (first
      | (go_simp; go_at_call 46
         with_reducible refine (forms_any _).mono ?_
         rintro e w1 ⟨mb, rfl, hmb, hM, hb1⟩
         first
           | (have hx := bx_kept hb1; obtain ⟨x0, x1, x3⟩ := hx; have hK1 := Kp.next (Kp.alloc (Kp.drew hK) _) hb1)
           | (have hx := bx_kept' hb1; obtain ⟨x0, x1, x3⟩ := hx; have hK1 := Kp.next (Kp.drew (Kp.alloc hK _)) hb1)
           | (have hK1 := Kp.next (Kp.drew hK) hb1)
         have x2 := hb1.size
         simp at x2 hmb
         have x4 : w.heap.size < w1.heap.size := by omega)
      | fail)
    all_goals
      go_wp2_with fail
      go_meet
      case rel => first | exact rg1 hM hK1 | exact rg2 hM hK1 hq0 x0 x3 hmb | exact rg3 hM hK1
  case rest =>
  obtain ⟨pb, cb, mb, rfl, zpb, hne, hp, hck, hKc, hcb⟩ := hcut
  have hcall := hid (tcontains_any vars.length dom ta ct ths cb mb pb wc ((Ht.out.keep fun b o hb => hKc.2 b o hb).widen fun b hb => ⟨Nat.lt_of_lt_of_le hb hKc.1.size, by have : b < W0.heap.size := hb; omega⟩) hck zpb hne hp)
  have HK := hid hKc
  clear hck hK hq0
  go_wp2_with (first
    | (go_at_call 47
       with_reducible refine hcall.out.mono ?_
       rintro e w2 ⟨rfl, hg⟩)
    | fail)
  go_ret
  exact ⟨ret_bool (by rw [hres3.out]), Kp.fin HB.out (Kp.of (HK.out.1.grown hg HK.out.1.size fun k hk => by cases hk; exact hcb))⟩
end Go.Proofs.YtphlbbnmligadaaGreatDoor
