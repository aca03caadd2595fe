/- Parts of statements and of instructions: the document's Part. -/
import Derived.Test.YtphlbbnmligadaaGreatDoorTreE
namespace Go.Proofs.YtphlbbnmligadaaGreatDoor
open Go.RowKit

/-- Why a number is refused, or not. -/
theorem num_cases (n most : Int) (has : Bool) :
    (numL n most has = false ∧ ((has = true ∧ n < 0) ∨ (has = true ∧ ¬ n < 0 ∧ most ≤ n) ∨ (has = false ∧ (n != 0) = true))) ∨
    (numL n most has = true ∧ ((has = true ∧ ¬ n < 0 ∧ ¬ most ≤ n) ∨ (has = false ∧ (n != 0) = false))) := by
  cases has
  · by_cases h : n = 0
    · right; subst h; exact ⟨rfl, .inr ⟨rfl, rfl⟩⟩
    · left; exact ⟨by simpa [numL] using h, .inr (.inr ⟨rfl, by simpa using h⟩)⟩
  · by_cases h : n < 0
    · left; exact ⟨by simp [numL]; omega, .inl ⟨rfl, h⟩⟩
    · by_cases h2 : most ≤ n
      · left; exact ⟨by simp [numL]; omega, .inr (.inl ⟨rfl, h, h2⟩)⟩
      · right; exact ⟨by simp [numL]; omega, .inl ⟨rfl, h, h2⟩⟩

set_option maxRecDepth 100000 in
set_option maxHeartbeats 16000000 in
theorem refPart_any (k reg v : Int) (a b : Ex) (vars dom : Int) (ca cb : List Value) (w : World) (ha : ExIn w (In_ w) ca a) (hb : ExIn w (In_ w) cb b) :
    Calls Tryz.prog 108 #[.int .i64 k, .int .i64 reg, .int .i64 v, .agg ca.toArray, .agg cb.toArray, .int .i64 vars, .int .i64 dom] w fun e w' => e = .returned (.bool (partL k reg v a b vars dom)) ∧ Below w.heap.size w w' := by
  obtain ⟨u0, u1, u2, u3, rfl⟩ := ha.four
  obtain ⟨v0, v1, v2, v3, rfl⟩ := hb.four
  have hp : Hid (partL k reg v a b vars dom = (numL reg 4 (h0 k) && numL v vars (h1 k) && oneL a dom (h2 k) && oneL b dom (h3 k))) := rfl
  have hhas := hid (has_any k)
  generalize h0 k = i0 at *
  generalize h1 k = i1 at *
  generalize h2 k = i2 at *
  generalize h3 k = i3 at *
  obtain ⟨W0, hW⟩ : ∃ W0, W0 = (w.alloc (.cells #[u0, u1, u2, u3] 44)).alloc (.cells #[v0, v1, v2, v3] 44) := ⟨_, rfl⟩
  have hB : Below w.heap.size w W0 := by subst hW; exact ((Below.refl _ _).alloc (Nat.le_refl _) _).alloc (by simp) _
  have z1 : w.heap.size + 1 < W0.heap.size := by subst hW; simp
  have x0 : W0.cell? ⟨w.heap.size, 0, none⟩ = some u0 := by subst hW; go_simp
  have x1 : W0.cell? ⟨w.heap.size, 1, none⟩ = some u1 := by subst hW; go_simp
  have x2 : W0.cell? ⟨w.heap.size, 2, none⟩ = some u2 := by subst hW; go_simp
  have x3 : W0.cell? ⟨w.heap.size, 3, none⟩ = some u3 := by subst hW; go_simp
  have y0 : W0.cell? ⟨w.heap.size + 1, 0, none⟩ = some v0 := by subst hW; go_simp
  have y1 : W0.cell? ⟨w.heap.size + 1, 1, none⟩ = some v1 := by subst hW; go_simp
  have y2 : W0.cell? ⟨w.heap.size + 1, 2, none⟩ = some v2 := by subst hW; go_simp
  have y3 : W0.cell? ⟨w.heap.size + 1, 3, none⟩ = some v3 := by subst hW; go_simp
  have z0 : w.heap.size < W0.heap.size := by omega
  have hA := hid ((Kp.of hB).ex ha)
  have hBx := hid ((Kp.of hB).ex hb)
  have HB := hid hB
  have hWx := hid hW
  clear hW hB ha hb
  go_enter Tryz.func108, Tryz.ntmps108
  go_wp2_with fail
  rw [← hWx.out]
  refine (hhas.out W0).mono ?_
  rintro e w1 ⟨rfl, hb1⟩
  have hK1 : Kp W0 w1 := Kp.of hb1
  have hK2 : Kp W0 (w1.alloc (.cells #[.bool i0, .bool i1, .bool i2, .bool i3] 165)) := hK1.alloc _
  have hea := hid (expr_any dom a [u0, u1, u2, u3] _ (hK2.ex hA.out))
  have hna := hid (none_any a [u0, u1, u2, u3] _ (hK2.ex hA.out))
  have heb : Hid (∀ w3, Kp W0 w3 → Calls Tryz.prog 17 #[.agg #[v0, v1, v2, v3], .int .i64 dom] w3 fun e w' => e = .returned (.bool (b.fit dom 20)) ∧ Below w3.heap.size w3 w') := fun w3 h3 => expr_any dom b [v0, v1, v2, v3] w3 (h3.ex hBx.out)
  have hnb : Hid (∀ w3, Kp W0 w3 → Calls Tryz.prog 135 #[.agg #[v0, v1, v2, v3]] w3 fun e w' => e = .returned (.bool b.none) ∧ Below w3.heap.size w3 w') := fun w3 h3 => none_any b [v0, v1, v2, v3] w3 (h3.ex hBx.out)
  have hq3 : Hid (∀ w4, Below (w1.alloc (.cells #[.bool i0, .bool i1, .bool i2, .bool i3] 165)).heap.size (w1.alloc (.cells #[.bool i0, .bool i1, .bool i2, .bool i3] 165)) w4 → w4.cell? ⟨w1.heap.size, 3, none⟩ = some (.bool i3)) := fun w4 h4 => by
    rw [h4.cell (p := ⟨_, _, none⟩) (by simp)]; go_simp
  have hq2 : Hid (∀ w4, Below (w1.alloc (.cells #[.bool i0, .bool i1, .bool i2, .bool i3] 165)).heap.size (w1.alloc (.cells #[.bool i0, .bool i1, .bool i2, .bool i3] 165)) w4 → w4.cell? ⟨w1.heap.size, 2, none⟩ = some (.bool i2)) := fun w4 h4 => by
    rw [h4.cell (p := ⟨_, _, none⟩) (by simp)]; go_simp
  have HB2 := hid (Kp.fin HB.out hK2)
  clear hb1 hK1 hhas hA hBx hWx
  have hc1 := num_cases reg 4 i0
  have hc2 := num_cases v vars i1
  have hoa : oneL a dom i2 = if i2 then a.fit dom 20 else a.none := rfl
  have hob : oneL b dom i3 = if i3 then b.fit dom 20 else b.none := rfl
  have HOA := hid hoa
  have HOB := hid hob
  clear hoa hob
  generalize numL reg 4 i0 = r1 at *
  generalize numL v vars i1 = r2 at *
  generalize oneL a dom i2 = r3 at *
  generalize oneL b dom i3 = r4 at *
  generalize a.fit dom 20 = fa at *
  generalize b.fit dom 20 = fb at *
  generalize a.none = na at *
  generalize b.none = nb at *
  rcases hc1 with ⟨rfl, hc1⟩ | ⟨rfl, hc1⟩
  · clear hc2
    rcases hc1 with ⟨rfl, hr1⟩ | ⟨rfl, hr1, hr2⟩ | ⟨rfl, hr1⟩
    all_goals
      go_wp2_with fail
      go_ret
      exact ⟨ret_bool (by rw [hp.out]; rfl), HB2.out⟩
  rcases hc2 with ⟨rfl, hc2⟩ | ⟨rfl, hc2⟩
  · rcases hc1 with ⟨rfl, hr1, hr2⟩ | ⟨rfl, hr1⟩
    all_goals
      rcases hc2 with ⟨rfl, hv1⟩ | ⟨rfl, hv1, hv2⟩ | ⟨rfl, hv1⟩
      all_goals
        go_wp2_with fail
        go_ret
        exact ⟨ret_bool (by rw [hp.out]; rfl), HB2.out⟩
  cases i2
  all_goals
    cases i3
    all_goals
      rcases hc1 with ⟨rfl, hr1, hr2⟩ | ⟨rfl, hr1⟩
      all_goals
        rcases hc2 with ⟨rfl, hv1, hv2⟩ | ⟨rfl, hv1⟩
        all_goals
          go_wp2_with fail
          first
            | (refine hea.out.mono ?_
               rintro e w4 ⟨rfl, hb4⟩
               have hr3 : r3 = fa := HOA.out)
            | (refine hna.out.mono ?_
               rintro e w4 ⟨rfl, hb4⟩
               have hr3 : r3 = na := HOA.out)
          subst hr3
          have HF := hid (HB2.out.trans (hb4.mono HB2.out.size))
          have HK4 : Kp W0 w4 := hK2.next hb4
          have q4 := hq3.out w4 hb4
          have p4 := hq2.out w4 hb4
          have s4 := hb4.size
          simp only [World.size_alloc] at s4
          have g4 : w1.heap.size < w4.heap.size := by omega
          clear hb4 s4
          cases r3
          · go_wp2_with fail
            go_ret
            exact ⟨ret_bool (by rw [hp.out]; rfl), HF.out⟩
          go_wp2_with fail
          first
            | (refine (heb.out w4 HK4).mono ?_
               rintro e w5 ⟨rfl, hb5⟩
               have hr4 : r4 = fb := HOB.out)
            | (refine (hnb.out w4 HK4).mono ?_
               rintro e w5 ⟨rfl, hb5⟩
               have hr4 : r4 = nb := HOB.out)
          subst hr4
          have HF5 := hid (HF.out.trans (hb5.mono HF.out.size))
          have q5 : w5.cell? ⟨w1.heap.size, 3, none⟩ = some (.bool _) := (hb5.cell (p := ⟨_, _, none⟩) g4).trans q4
          cases r4
          all_goals
            go_wp2_with fail
            go_ret
            exact ⟨ret_bool (by rw [hp.out]; rfl), HF5.out⟩
end Go.Proofs.YtphlbbnmligadaaGreatDoor
