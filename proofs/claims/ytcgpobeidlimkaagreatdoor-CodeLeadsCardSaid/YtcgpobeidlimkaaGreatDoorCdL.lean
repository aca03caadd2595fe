/- CodeLeads, walked. -/
import Derived.Test.YtcgpobeidlimkaaGreatDoorBunX
import Derived.Test.YtcgpobeidlimkaaGreatDoorCdN
import Derived.Test.YtcgpobeidlimkaaGreatDoorBunZ
namespace Go.Proofs.YtcgpobeidlimkaaGreatDoor
open Go.RowKit

/-- Where an instruction that was compiled leads. -/
theorem good_at {l : List Ins} (h : GoodI l 0 l.length) (k : Nat) (hk : k < l.length) :
    0 ≤ l[k].to ∧ l[k].to ≤ l.length ∧ (l[k].op = 12 → (k : Int) < l[k].to) ∧ (l[k].op = 13 → (k : Int) < l[k].to ∨ ∃ (i : Nat) (hi : i < l.length), i ≤ k ∧ l[k].to = i ∧ l[i].op = 12 ∧ l[i].to = ((k + 1 : Nat) : Int)) := by
  obtain ⟨h1, h2, h3⟩ := h k l[k] (List.getElem?_eq_getElem hk)
  simp only [Nat.zero_add] at h1 h2
  refine ⟨?_, ?_, fun e => (h1 e).1, fun e => ?_⟩
  · by_cases e1 : l[k].op = 12
    · have := h1 e1; omega
    · by_cases e2 : l[k].op = 13
      · rcases h2 e2 with h | ⟨i, y, hi, hy, h4, -⟩
        · omega
        · omega
      · rw [h3 e1 e2]; omega
  · by_cases e1 : l[k].op = 12
    · have := h1 e1; omega
    · by_cases e2 : l[k].op = 13
      · rcases h2 e2 with h | ⟨i, y, hi, hy, h4, -⟩
        · omega
        · omega
      · rw [h3 e1 e2]; omega
  · rcases h2 e with h | ⟨i, y, hi, hy, h4, h5, h6⟩
    · exact .inl h.1
    · refine .inr ⟨i, by omega, by omega, h4, ?_, ?_⟩
      · rw [List.getElem?_eq_getElem (by omega)] at hy
        injection hy with hy
        rw [hy]; exact h5
      · rw [List.getElem?_eq_getElem (by omega)] at hy
        injection hy with hy
        rw [hy]; exact h6
/-- All threads that were compiled lead so. -/
theorem good_ths {p : Pg} (h : rightP p = true) : ∀ i (hi : i < (cmpT p.ths).length), GoodI (cmpT p.ths)[i] 0 (cmpT p.ths)[i].length := by
  unfold rightP sumT okT at h
  simp only [Bool.and_eq_true, List.all_eq_true] at h
  have hok := h.2.1
  intro i hi
  have hi' : i < p.ths.length := by simpa [cmpT] using hi
  have := cmpL_good (hok _ (List.getElem_mem hi')) 0
  simpa [cmpT] using this

set_option maxRecDepth 100000 in
set_option maxHeartbeats 8000000 in
theorem codeLeads_walk (la : Option Addr) (ln lc : Nat) (w : World) (hl : U8s w (In_ w) la ln lc) :
    Calls Tryz.prog 8 #[.slice la ln lc] w fun e w' => e = .returned (.bool true) ∧ Below w.heap.size w w' := by
  have Hl := hid hl
  have haw := hid (fun W => awake_any W)
  clear hl
  go_enter Tryz.func8, Tryz.ntmps8
  go_wp2_with fail
  refine (haw.out w).mono ?_
  rintro e w1 ⟨rfl, hb1⟩
  have HK1 := hid (Kp.of hb1)
  clear hb1
  go_wp2_with fail
  refine (kinds_any w1).mono ?_
  rintro e w2 ⟨rfl, hK2, hb2⟩
  have HK2 := hid (HK1.out.next hb2)
  have hl2 : U8s w2 (In_ w2) la ln lc := (Hl.out.keep fun b o hb => HK2.out.2 b o hb).widen (In_.mono HK2.out.1.size)
  have hmade := hid (madeP_any w2 la ln lc _ 13 13 hl2 hK2)
  clear hl2 hK2 hb2 Hl
  go_wp2_with fail
  refine hmade.out.mono ?_
  intro e w3 hp3
  obtain ⟨p, cs, rfl, hP, hright, -, -, -, hb3⟩ := hp3.right
  have hP0 := hP
  obtain ⟨va, cv, ta, ct, rfl, -, -, -⟩ := hP
  have HK3 := hid (HK2.out.next hb3)
  have h4 := hid (pCompile_any p _ w3 hP0)
  have Hright := hid hright
  clear hp3 hb3 hmade hP0 hright HK1 HK2
  go_wp2_with fail
  refine h4.out.mono ?_
  intro e w4 hp4
  obtain ⟨a, k, rfl, hT, hb4⟩ := hp4.ok Hright.out
  have HG := hid (good_ths Hright.out)
  have HK4 := hid (HK3.out.next hb4)
  clear hp4 hb4 h4 Hright HK3
  generalize cmpT p.ths = t at *
  generalize p.vars.length = vars at *
  generalize p.dom = dom at *
  generalize hW : w4.alloc (.cells #[.int .i64 vars, .int .i64 dom, .slice a t.length k] 30) = W0
  have hB : Below w4.heap.size w4 W0 := by subst hW; exact (Below.refl _ _).alloc (Nat.le_refl _) _
  have z0 : w4.heap.size < W0.heap.size := by subst hW; simp
  have c2 : W0.cell? ⟨w4.heap.size, 2, none⟩ = some (.slice a t.length k) := by subst hW; go_simp
  have Hin := hid ((Kp.of hB).ths hT)
  have HB := hid (HK4.out.next hB)
  have hcap := hT.le
  have hmx := hT.mx
  unfold maxLen at hmx
  have hWx := hid hW
  clear hW hB hT HK4
  go_wp2_with fail
  rw [hWx.out]
  go_loopw [6] (fun i wr => ∃ k : Nat, k ≤ t.length ∧ i = .int .i64 k ∧ wr = W0) (fun i _ => t.length - (intOf i).toNat)
  case atStart => exact ⟨0, Nat.zero_le _, rfl, rfl⟩
  case round =>
    obtain ⟨k, hk, rfl, rfl⟩ := hrel
    by_cases hlt : k < t.length
    · obtain ⟨bb, off, ar, kr, rfl, hbb, e0, hrow⟩ := Hin.out.at_ k hlt
      have hbl : bb < wr.heap.size := hbb
      have k0 : (0 : Int) ≤ k := by omega
      have k1 : (k : Int) < t.length := by omega
      have hrc := hrow.le
      have hrm := hrow.mx
      unfold maxLen at hrm
      have hrow := hid hrow
      have hg := hid (HG.out k hlt)
      clear HG
      generalize t[k] = l at *
      go_wp2_with fail
      go_loopw [8] (fun i wr' => ∃ q : Nat, q ≤ l.length ∧ i = .int .i64 q ∧ wr' = wr) (fun i _ => l.length - (intOf i).toNat)
      case atStart => exact ⟨0, Nat.zero_le _, rfl, rfl⟩
      case round =>
        obtain ⟨q, hq, rfl, hw⟩ := hrel
        subst hw
        by_cases hlt2 : q < l.length
        · obtain ⟨b, off2, u0, u1, u2, u3, v0, v1, v2, v3, hA, hb, ⟨f0, -⟩, -, -, f11, -⟩ := hrow.out.at_ q hlt2
          subst hA
          have hb2 := hb.lt
          have q0 : (0 : Int) ≤ q := by omega
          have q1 : (q : Int) < l.length := by omega
          obtain ⟨g1, g2, g3, g4⟩ := good_at hg.out q hlt2
          cases h13 : (l[q].op == 13) with
          | false =>
            clear g4
            generalize l[q].op = op at *
            generalize l[q].to = dst at *
            have d1 : decide (dst < 0) = false := decide_eq_false (by omega)
            have d2 : decide ((l.length : Int) < dst) = false := decide_eq_false (by omega)
            cases h12 : (op == 12) with
            | false =>
              clear g1 g2 g3
              go_wp2_with fail
              go_roundw
              case rel => exact ⟨q + 1, by omega, by simp, by trivial⟩
              case measure => simp [intOf]; omega
            | true =>
              have d3 : decide (dst ≤ (q : Int)) = false := decide_eq_false (by have := g3 (by simpa using h12); omega)
              clear g1 g2 g3
              go_wp2_with fail
              go_roundw
              case rel => exact ⟨q + 1, by omega, by simp, by trivial⟩
              case measure => simp [intOf]; omega
          | true =>
            have h12 : (l[q].op == 12) = false := by
              have := eq_of_beq h13
              rw [this]; rfl
            have g4 := g4 (eq_of_beq h13)
            by_cases hfw : (q : Int) < l[q].to
            · clear g4 g3
              generalize l[q].op = op at *
              generalize l[q].to = dst at *
              have d1 : decide (dst < 0) = false := decide_eq_false (by omega)
              have d2 : decide ((l.length : Int) < dst) = false := decide_eq_false (by omega)
              have d3 : decide (dst ≤ (q : Int)) = false := decide_eq_false (by omega)
              clear g1 g2 hfw
              go_wp2_with fail
              go_roundw
              case rel => exact ⟨q + 1, by omega, by simp, by trivial⟩
              case measure => simp [intOf]; omega
            · obtain ⟨i, hi, hik, ei, ei1, ei2⟩ := g4.resolve_left hfw
              obtain ⟨b', off2', -, -, -, -, -, -, -, -, hA, -, ⟨i0, -⟩, -, -, i11, -⟩ := hrow.out.at_ i hi
              injection hA with hA
              injection hA with hA1 hA2
              subst hA1 hA2
              rw [ei1] at i0
              rw [ei2] at i11
              rw [ei] at f11
              clear g3 g4 g1 g2 ei ei1 ei2 hfw
              generalize l[q].op = op at *
              have i1 : (0 : Int) ≤ i := by omega
              have i2 : (i : Int) < l.length := by omega
              have d1 : decide ((i : Int) < 0) = false := decide_eq_false (by omega)
              have d2 : decide ((l.length : Int) < (i : Int)) = false := decide_eq_false (by omega)
              have d3 : decide ((i : Int) ≤ (q : Int)) = true := decide_eq_true (by omega)
              go_wp2_with fail
              go_roundw
              case rel => exact ⟨q + 1, by omega, by simp, by trivial⟩
              case measure => simp [intOf]; omega
        · obtain rfl : q = l.length := by omega
          go_wp2_with fail
          go_roundw
          case rel => exact ⟨k + 1, by omega, by simp, by trivial⟩
          case measure => simp [intOf]; omega
    · obtain rfl : k = t.length := by omega
      go_wp2_with fail
      go_ret
      exact ⟨rfl, HB.out.1⟩
end Go.Proofs.YtcgpobeidlimkaaGreatDoor
