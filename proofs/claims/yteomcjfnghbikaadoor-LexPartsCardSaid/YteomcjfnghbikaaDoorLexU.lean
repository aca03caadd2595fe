/- What any right program answers: awake. -/
import Derived.Test.YteomcjfnghbikaaDoorLexS
namespace Go.Proofs.YteomcjfnghbikaaDoor
open Go.RowKit

theorem aw1 : lexR [120, 61, 114, 48, 59] = ([⟨1, [120], 0, 0⟩, ⟨3, [61], 0, 1⟩, ⟨1, [114, 48], 0, 2⟩, ⟨3, [59], 0, 4⟩, ⟨0, [], 0, 5⟩], 0, 0) := by kernel_rfl
theorem aw2 : lexR [120, 32, 63] = ([], 20, 2) := by kernel_rfl
theorem aw3 : lexR [49, 50, 61, 61, 33, 61] = ([⟨2, [49, 50], 12, 0⟩, ⟨3, [61, 61], 0, 2⟩, ⟨3, [33, 61], 0, 4⟩, ⟨0, [], 0, 6⟩], 0, 0) := by kernel_rfl
theorem aw4 : keyB ⟨#[102, 101, 110, 99, 101]⟩ = true := by kernel_rfl
theorem aw5 : regI ⟨#[114, 51]⟩ = 3 := by kernel_rfl
theorem aw6 : regI ⟨#[114, 52]⟩ = -1 := by kernel_rfl
theorem aw7 : nameB ⟨#[114, 52]⟩ = true := by kernel_rfl
theorem aw8 : nameB ⟨#[114, 51]⟩ = false := by kernel_rfl

theorem lex_at {L : List UInt8} {s : ByteArray} (hs : s.data.toList = L) {r : List Tok × Int × Int} (hr : lexR L = r) (w : World) (hv : Vars w) :
    Calls Tryd.prog 11 #[.string s] w fun e w' => ∃ a cap, e = .returned (.tuple #[.slice a r.1.length cap, .int .i64 r.2.1, .int .i64 r.2.2]) ∧ TkIn w' (fun b => w.heap.size ≤ b ∧ b < w'.heap.size) a r.1.length cap r.1 ∧ Below w.heap.size w w' := by
  have := lex_any s w hv
  rw [hs] at this
  unfold LexPost at this
  rwa [hr] at this

set_option maxRecDepth 100000 in
set_option maxHeartbeats 8000000 in
theorem awake_any (w : World) (hv : Vars w) : Calls Tryd.prog 8 #[] w fun e w' => e = .returned (.bool true) ∧ Below w.heap.size w w' := by
  have l1 := lex_at (s := ⟨#[120, 61, 114, 48, 59]⟩) rfl aw1 w hv
  have l2 := fun w hv => lex_at (s := ⟨#[120, 32, 63]⟩) rfl aw2 w hv
  have l3 := fun w hv => lex_at (s := ⟨#[49, 50, 61, 61, 33, 61]⟩) rfl aw3 w hv
  dsimp only [List.length_cons, List.length_nil, Nat.reduceAdd] at l1 l2 l3
  have k1 := fun w => key_any ⟨#[102, 101, 110, 99, 101]⟩ w
  have k2 := fun w => reg_any ⟨#[114, 51]⟩ w
  have k3 := fun w => reg_any ⟨#[114, 52]⟩ w
  have k4 := fun w => name_any ⟨#[114, 52]⟩ w
  have k5 := fun w => name_any ⟨#[114, 51]⟩ w
  simp only [aw4] at k1
  simp only [aw5] at k2
  simp only [aw6] at k3
  simp only [aw7] at k4
  simp only [aw8] at k5
  go_enter Tryd.func8, Tryd.ntmps8
  go_wp2_with (first
    | (go_at_call 11; refine l1.mono ?_; clear l1; rintro e1 w1 ⟨a1, c1, rfl, t1, hB1⟩
       have hv1 := hv.next hB1)
    | (go_at_call 11; refine (l2 _ hv1).mono ?_; clear l2; rintro e2 w2 ⟨a2, c2, rfl, t2, hB2⟩
       have hv2 := hv1.next hB2)
    | (go_at_call 11; refine (l3 _ hv2).mono ?_; clear l3; rintro e3 w3 ⟨a3, c3, rfl, t3, hB3⟩
       have hB13 := hB1.trans ((hB2.mono hB1.size).trans (hB3.mono (Nat.le_trans hB1.size hB2.size)))
       have g1 := (t1.keep fun b o hb => (hB2.cell (p := ⟨b, o, none⟩) hb.2)).keep (w' := w3) fun b o hb => hB3.cell (p := ⟨b, o, none⟩) (Nat.lt_of_lt_of_le hb.2 hB2.size)
       obtain ⟨b1, o1, rfl, _, p0, p1, p2, p3⟩ := g1.at_ 0 (by decide)
       obtain ⟨b1', o1', e1', _, q0, q1, q2, q3⟩ := g1.at_ 4 (by decide)
       obtain ⟨rfl, rfl⟩ : b1 = b1' ∧ o1 = o1' := by simpa using e1'
       obtain ⟨b3, o3, rfl, _, r0, r1, r2, r3⟩ := t3.at_ 0 (by decide)
       simp at p0 p1 p2 p3 q0 q1 q2 q3 r0 r1 r2 r3)
    | (go_at_call 12; refine (k1 _).mono ?_; clear k1; rintro e4 w4 ⟨rfl, hB4⟩
       have hB14 := hB13.trans (hB4.mono hB13.size))
    | (go_at_call 13; refine (k2 _).mono ?_; clear k2; rintro e5 w5 ⟨rfl, hB5⟩
       have hB15 := hB14.trans (hB5.mono hB14.size))
    | (go_at_call 13; refine (k3 _).mono ?_; clear k3; rintro e6 w6 ⟨rfl, hB6⟩
       have hB16 := hB15.trans (hB6.mono hB15.size))
    | (go_at_call 14; refine (k4 _).mono ?_; clear k4; rintro e7 w7 ⟨rfl, hB7⟩
       have hB17 := hB16.trans (hB7.mono hB16.size))
    | (go_at_call 14; refine (k5 _).mono ?_; clear k5; rintro e8 w8 ⟨rfl, hB8⟩
       have hB18 := hB17.trans (hB8.mono hB17.size))
    | fail)
  go_ret
  exact ⟨rfl, hB18⟩
set_option maxHeartbeats 4000000 in
theorem lexAny_walk (s : ByteArray) (w : World) (hv : Vars w) : Calls Tryd.prog 3 #[.string s] w fun e w' => e = .returned (.bool true) ∧ Below w.heap.size w w' := by
  have h1 := awake_any w hv
  have h2 := fun w hv => same_law s w hv
  have hor : (decide ((600 : Int) < s.size) = false) ∨ (decide ((600 : Int) < s.size) = true ∧ decide ((s.size : Int) ≤ 10000) = true) ∨ (decide ((600 : Int) < s.size) = true ∧ decide ((s.size : Int) ≤ 10000) = false) := by
    by_cases ha : (600 : Int) < s.size
    · by_cases hb : (s.size : Int) ≤ 10000
      · exact .inr (.inl ⟨decide_eq_true ha, decide_eq_true hb⟩)
      · exact .inr (.inr ⟨decide_eq_true ha, decide_eq_false hb⟩)
    · exact .inl (decide_eq_false ha)
  rcases hor with da | ⟨da, db⟩ | ⟨da, db⟩
  all_goals
    go_enter Tryd.func3, Tryd.ntmps3
    go_wp2_with (first
      | (go_at_call 8; refine h1.mono ?_; rintro e w1 ⟨rfl, hB1⟩
         have hv1 := hv.next hB1)
      | (go_at_call 9; refine (h2 _ hv1).mono ?_; rintro e w2 ⟨rfl, hB2⟩
         have hB3 := hB1.trans (hB2.mono hB1.size))
      | fail)
    go_ret
    first
      | exact ⟨rfl, hB3⟩
      | exact ⟨rfl, hB1⟩
end Go.Proofs.YteomcjfnghbikaaDoor
