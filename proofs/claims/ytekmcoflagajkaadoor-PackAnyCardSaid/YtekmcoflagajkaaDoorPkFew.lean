/- Few: has code, and a state, at most so many things? -/
import Derived.Test.YtekmcoflagajkaaDoorStpM
import Derived.Test.YtekmcoflagajkaaDoorKp
import Derived.BigQuiet
import Derived.Deep.QuietTactic
namespace Go.Proofs.YtekmcoflagajkaaDoor
open Go.RowKit

def FewPost (w : World) (t : List (List Ins)) (th : List Thr) (mem : List Int) (e : Ending) (w' : World) : Prop :=
  ∃ b : Bool, e = .returned (.bool b) ∧ Below w.heap.size w w' ∧ (b = true → t.length ≤ 300 ∧ th.length ≤ 300 ∧ mem.length ≤ 300 ∧ ∀ x ∈ th, x.buf.length ≤ 300)

theorem ExIn.kid {w : World} {S : Nat → Prop} {u0 u1 u2 u3 : Value} {x : Ex} (h : ExIn w S [u0, u1, u2, u3] x) : ∃ a cap, u3 = .slice a x.kids.length cap := by
  cases x with
  | mk k n o l =>
    obtain ⟨a, cap, e, _⟩ := h.open_
    simp only [List.cons.injEq] at e
    exact ⟨a, cap, e.2.2.2.1⟩

set_option maxRecDepth 100000 in
set_option maxHeartbeats 16000000 in
theorem few_any (vars dom : Int) (ac : Option Addr) (nc capc : Nat) (t : List (List Ins)) (ah : Option Addr) (nh caph : Nat) (th : List Thr) (am : Option Addr) (nm capm : Nat) (mem : List Int) (bad : Bool) (w : World)
    (hc : ThsIn w (In_ w) ac nc capc t) (hh : ThrIn w (In_ w) ah nh caph th) (hm : IntIn w (In_ w) am nm capm mem)
    (rt : t.length ≤ 140737488355328) (rh : th.length ≤ 140737488355328) (rm : mem.length ≤ 140737488355328)
    (ri : ∀ l ∈ t, l.length ≤ 140737488355328 ∧ ∀ x ∈ l, x.a.kids.length ≤ 140737488355328 ∧ x.b.kids.length ≤ 140737488355328) (rb : ∀ x ∈ th, x.buf.length ≤ 140737488355328) :
    Calls Tryd.prog 5 #[.agg #[.int .i64 vars, .int .i64 dom, .slice ac nc capc], .agg #[.slice ah nh caph, .slice am nm capm, .bool bad]] w (FewPost w t th mem) := by
  have hn1 := hc.1
  have hn2 := hh.1
  have hn3 := hm.1
  subst hn1 hn2 hn3
  have l1 := hc.le
  have l2 := hc.mx
  have l3 := hh.le
  have l4 := hh.mx
  have l5 := hm.2.le
  have l6 := hm.2.mx
  unfold maxLen at l2 l4 l6
  obtain ⟨W0, hW⟩ : ∃ W0, W0 = (w.alloc (.cells #[.int .i64 vars, .int .i64 dom, .slice ac t.length capc] 24)).alloc (.cells #[.slice ah th.length caph, .slice am mem.length capm, .bool bad] 30) := ⟨_, rfl⟩
  have hB : Below w.heap.size w W0 := by subst hW; exact ((Below.refl _ _).alloc (Nat.le_refl _) _).alloc (by simp) _
  have z1 : w.heap.size + 1 < W0.heap.size := by subst hW; simp
  have z0 : w.heap.size < W0.heap.size := by omega
  have c2 : W0.cell? ⟨w.heap.size, 2, none⟩ = some (.slice ac t.length capc) := by subst hW; go_simp
  have s0 : W0.cell? ⟨w.heap.size + 1, 0, none⟩ = some (.slice ah th.length caph) := by subst hW; go_simp
  have s1 : W0.cell? ⟨w.heap.size + 1, 1, none⟩ = some (.slice am mem.length capm) := by subst hW; go_simp
  have hc0 := hid ((Kp.of hB).ths hc)
  have hh0 := hid ((Kp.of hB).thr hh)
  have HB := hid hB
  have hWx := hid hW
  have Hri := hid ri
  have Hrb := hid rb
  clear hW hB hc hh hm ri rb
  go_enter Tryd.func5, Tryd.ntmps5
  go_wp2_with fail
  rw [← hWx.out]
  go_wp2_with fail
  go_loopw [5, 6] (fun n i wr => ∃ (nn k : Nat), t.length + th.length + mem.length ≤ nn ∧ nn ≤ 1125899906842624 ∧ k ≤ t.length ∧ n = .int .i64 nn ∧ i = .int .i64 k ∧ Kp W0 wr) (fun _ i _ => t.length - (intOf i).toNat)
  case atStart => exact ⟨t.length + th.length + mem.length, 0, Nat.le_refl _, by omega, Nat.zero_le _, by go_num, rfl, Kp.refl _⟩
  case round =>
    obtain ⟨nn, k, h1, h2, hk, rfl, rfl, hK⟩ := hrel
    by_cases hlt : k < t.length
    case neg =>
      obtain rfl : k = t.length := by omega
      go_wp2_with fail
      go_loopw [5, 8] (fun n i wr => ∃ (nn k : Nat), t.length + th.length + mem.length ≤ nn ∧ nn ≤ 1125899906842624 ∧ k ≤ th.length ∧ n = .int .i64 nn ∧ i = .int .i64 k ∧ Kp W0 wr ∧ Hid (∀ q (_ : q < th.length), q < k → th[q].buf.length ≤ nn)) (fun _ i _ => th.length - (intOf i).toNat)
      case atStart => exact ⟨nn, 0, h1, h2, Nat.zero_le _, rfl, rfl, hK, fun q _ h => absurd h (by omega)⟩
      case round =>
        clear hK h1 h2
        obtain ⟨nn, k, h1, h2, hk, rfl, rfl, hK, hb⟩ := hrel
        by_cases hlt : k < th.length
        · by_cases hnn : (nn : Int) < 300
          · obtain ⟨bb, off, ar, kr, rfl, hb1, ⟨f0, f1, f2⟩, ⟨f3, f4, f5⟩, hen⟩ := hh0.out.at_ k hlt
            have hlb := hb1.lt
            have k0 : (0 : Int) ≤ k := by omega
            have k1 : (k : Int) < th.length := by omega
            have hr := Hrb.out th[k] (List.getElem_mem hlt)
            have hbs : Hid (∀ q (_ : q < th.length), q < k + 1 → th[q].buf.length ≤ nn + th[k].buf.length) := fun q hq h => by
              by_cases e : q = k
              · subst e; omega
              · have := hb.out q hq (by omega); omega
            generalize th[k].buf.length = bl at *
            have Hen := trivial
            clear hen f0 f1 f2 f3 f4
            go_wp2_with fail
            go_roundw
            case rel => exact ⟨nn + bl, k + 1, by omega, by omega, by omega, by go_num, by simp, hK, hbs⟩
            case measure => simp [intOf]; omega
          · have hF := hid (Kp.fin HB.out hK)
            go_wp2_with fail
            go_ret
            exact ⟨false, rfl, hF.out, fun h => by cases h⟩
        · obtain rfl : k = th.length := by omega
          have hF := hid (Kp.fin HB.out hK)
          by_cases hnn : (nn : Int) < 300
          · go_wp2_with fail
            go_ret
            refine ⟨true, rfl, hF.out, fun _ => ⟨by omega, by omega, by omega, fun x hx => ?_⟩⟩
            obtain ⟨q, hq, rfl⟩ := List.getElem_of_mem hx
            have := hb.out q hq hq
            omega
          · go_wp2_with fail
            go_ret
            exact ⟨false, rfl, hF.out, fun h => by cases h⟩
    by_cases hnn : (nn : Int) < 300
    case neg =>
      go_wp2_with fail
      go_loopw [5, 8] (fun n i wr => ∃ (nn k : Nat), t.length + th.length + mem.length ≤ nn ∧ nn ≤ 1125899906842624 ∧ k ≤ th.length ∧ n = .int .i64 nn ∧ i = .int .i64 k ∧ Kp W0 wr ∧ Hid (∀ q (_ : q < th.length), q < k → th[q].buf.length ≤ nn)) (fun _ i _ => th.length - (intOf i).toNat)
      case atStart => exact ⟨nn, 0, h1, h2, Nat.zero_le _, rfl, rfl, hK, fun q _ h => absurd h (by omega)⟩
      case round =>
        clear hK h1 h2
        obtain ⟨nn, k, h1, h2, hk, rfl, rfl, hK, hb⟩ := hrel
        by_cases hlt : k < th.length
        · by_cases hnn : (nn : Int) < 300
          · obtain ⟨bb, off, ar, kr, rfl, hb1, ⟨f0, f1, f2⟩, ⟨f3, f4, f5⟩, hen⟩ := hh0.out.at_ k hlt
            have hlb := hb1.lt
            have k0 : (0 : Int) ≤ k := by omega
            have k1 : (k : Int) < th.length := by omega
            have hr := Hrb.out th[k] (List.getElem_mem hlt)
            have hbs : Hid (∀ q (_ : q < th.length), q < k + 1 → th[q].buf.length ≤ nn + th[k].buf.length) := fun q hq h => by
              by_cases e : q = k
              · subst e; omega
              · have := hb.out q hq (by omega); omega
            generalize th[k].buf.length = bl at *
            have Hen := trivial
            clear hen f0 f1 f2 f3 f4
            go_wp2_with fail
            go_roundw
            case rel => exact ⟨nn + bl, k + 1, by omega, by omega, by omega, by go_num, by simp, hK, hbs⟩
            case measure => simp [intOf]; omega
          · have hF := hid (Kp.fin HB.out hK)
            go_wp2_with fail
            go_ret
            exact ⟨false, rfl, hF.out, fun h => by cases h⟩
        · obtain rfl : k = th.length := by omega
          have hF := hid (Kp.fin HB.out hK)
          by_cases hnn : (nn : Int) < 300
          · go_wp2_with fail
            go_ret
            refine ⟨true, rfl, hF.out, fun _ => ⟨by omega, by omega, by omega, fun x hx => ?_⟩⟩
            obtain ⟨q, hq, rfl⟩ := List.getElem_of_mem hx
            have := hb.out q hq hq
            omega
          · go_wp2_with fail
            go_ret
            exact ⟨false, rfl, hF.out, fun h => by cases h⟩
    obtain ⟨bb, off, ar, kr, rfl, hb1, f0, hrow⟩ := hc0.out.at_ k hlt
    have hlb := hb1.lt
    have hri := hid (Hri.out t[k] (List.getElem_mem hlt))
    obtain ⟨l, hl⟩ : ∃ l, l = t[k] := ⟨_, rfl⟩
    rw [← hl] at f0 hrow hri
    have hrow := hid hrow
    have q0 := hrow.out.le
    have q1 := hrow.out.mx
    unfold maxLen at q1
    have q2 := hri.out.1
    have k0 : (0 : Int) ≤ k := by omega
    have k1 : (k : Int) < t.length := by omega
    clear hl
    go_wp2_with fail
    rename World => W2
    go_loopw [5, 7] (fun n i wr => ∃ (mm j : Nat), t.length + th.length + mem.length ≤ mm ∧ mm ≤ 1125899906842624 ∧ j ≤ l.length ∧ n = .int .i64 mm ∧ i = .int .i64 j ∧ Kp W0 wr) (fun _ i _ => l.length - (intOf i).toNat)
    case atStart => exact ⟨nn + l.length, 0, by omega, by omega, Nat.zero_le _, by go_num, rfl, hK⟩
    case round =>
      clear hK h1 h2 hnn
      obtain ⟨mm, j, h1, h2, hj, rfl, rfl, hK⟩ := hrel
      by_cases hjl : j < l.length
      · by_cases hnn : (mm : Int) < 300
        · obtain ⟨bc, of2, u0, u1, u2, u3, v0, v1, v2, v3, rfl, hb2, -, ⟨-, -, -, g3⟩, ⟨-, -, -, e3⟩, -, ea, eb⟩ := hrow.out.at_ j hjl
          have hlc := hb2.lt
          have hx := hri.out.2 l[j] (List.getElem_mem hjl)
          obtain ⟨aa, ca, rfl⟩ := ea.kid
          obtain ⟨ab, cb, rfl⟩ := eb.kid
          clear ea eb
          generalize l[j].a.kids.length = la at *
          generalize l[j].b.kids.length = lb at *
          obtain ⟨y0, y1⟩ := hx
          have j0 : (0 : Int) ≤ j := by omega
          have j1 : (j : Int) < l.length := by omega
          go_wp2_with fail
          go_quiet (fail)
          have hK2 := drewN_kp hK nq
          go_wp2_with fail
          go_roundw
          case rel => exact ⟨mm + la + lb, j + 1, by omega, by omega, by omega, by go_num, by simp, hK2⟩
          case measure => simp [intOf]; omega
        · go_wp2_with fail
          go_roundw
          case rel => exact ⟨mm, k + 1, by omega, by omega, by omega, by go_num, by simp, hK⟩
          case measure => simp [intOf]; omega
      · obtain rfl : j = l.length := by omega
        by_cases hnn : (mm : Int) < 300
        · go_wp2_with fail
          go_roundw
          case rel => exact ⟨mm, k + 1, by omega, by omega, by omega, by go_num, by simp, hK⟩
          case measure => simp [intOf]; omega
        · go_wp2_with fail
          go_roundw
          case rel => exact ⟨mm, k + 1, by omega, by omega, by omega, by go_num, by simp, hK⟩
          case measure => simp [intOf]; omega
end Go.Proofs.YtekmcoflagajkaaDoor
