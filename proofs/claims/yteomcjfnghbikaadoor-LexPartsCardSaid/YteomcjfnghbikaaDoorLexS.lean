/- The same tokens twice: the document's Same. -/
import Derived.Test.YteomcjfnghbikaaDoorLexR
namespace Go.Proofs.YteomcjfnghbikaaDoor
open Go.RowKit

set_option maxHeartbeats 4000000 in
theorem same_ref (a1 a2 : Option Addr) (c1 c2 : Nat) (l : List Tok) (hlen : l.length ≤ 100000) (w : World) (h1 : TkIn w (In_ w) a1 l.length c1 l) (h2 : TkIn w (In_ w) a2 l.length c2 l) :
    Calls Tryd.prog 16 #[.slice a1 l.length c1, .slice a2 l.length c2] w fun e w' => e = .returned (.bool true) ∧ Below w.heap.size w w' := by
  go_enter Tryd.func16, Tryd.ntmps16
  go_wp2_with fail
  go_loopw [5] (fun i wr => ∃ k : Nat, k ≤ l.length ∧ i = .int .i64 k ∧ Kp w wr) (fun i _ => l.length - (intOf i).toNat)
  case atStart => exact ⟨0, Nat.zero_le _, rfl, Kp.refl _⟩
  case round =>
    obtain ⟨k, hk, rfl, hK⟩ := hrel
    by_cases hlt : k < l.length
    · have k0 : (0 : Int) ≤ k := by omega
      have k1 : (k : Int) < l.length := by omega
      obtain ⟨b1, o1, rfl, hb1, p0, p1, p2, p3⟩ := (hK.tk h1).at_ k hlt
      obtain ⟨b2, o2, rfl, hb2, q0, q1, q2, q3⟩ := (hK.tk h2).at_ k hlt
      generalize l[k] = t at *
      have heq : (t.text == t.text) = true := by simp
      go_wp2_with fail
      go_quiet (fail)
      have hK2 := drewN_kp hK nq
      go_wp2_with fail
      exact ⟨⟨k + 1, hlt, by simp, hK2⟩, by simp [intOf]; omega⟩
    · obtain rfl : k = l.length := by omega
      go_wp2_with fail
      go_ret
      exact ⟨rfl, hK.1⟩
theorem lexF_len : ∀ (f : Nat) (l : List UInt8) (i : Nat), (lexF f l i).1.length ≤ l.length + 1
  | 0, _, _ => by simp [lexF]
  | f + 1, l, i => by
    simp only [lexF]
    split
    · simp
    · rename_i c m hm
      have hl := congrArg List.length hm
      have hb := runP_le blankB l
      simp at hl
      split
      · simp
      · rename_i k n v hk
        have h1 := headT_len hk
        have ih := lexF_len f ((c :: m).drop n) (i + runP blankB l + n)
        simp at ih h1 ⊢
        omega
theorem lexR_len (L : List UInt8) : (lexR L).1.length ≤ 10001 := by
  unfold lexR
  by_cases h : 10000 < L.length
  · rw [if_pos h]; simp
  · rw [if_neg h]
    have := lexF_len (L.length + 1) (L.drop 0) 0
    simp at this
    cases hx : (lexA L 0).2 with
    | none => simp only; unfold lexA; simp; omega
    | some j => simp

set_option maxRecDepth 100000 in
set_option maxHeartbeats 4000000 in
theorem same_law (s : ByteArray) (w : World) (hv : Vars w) :
    Calls Tryd.prog 9 #[.string s] w fun e w' => e = .returned (.bool true) ∧ Below w.heap.size w w' := by
  have h1 := lex_any s w hv
  have h2 := fun w => lex_ref s w
  have hlen := lexR_len s.data.toList
  unfold LexPost at h1 h2
  generalize lexR s.data.toList = r at h1 h2 hlen
  obtain ⟨ts, e, p⟩ := r
  dsimp only at h1 h2 hlen
  have k1 := fun w => key_any s w
  have k2 := fun w => key_ref s w
  have r1 := fun w => reg_any s w
  have r2 := fun w => reg_ref s w
  have n1 := fun w => name_any s w
  have n2 := fun w => name_ref s w
  generalize keyB s = kb at k1 k2
  generalize regI s = ri at r1 r2
  generalize nameB s = nb at n1 n2
  have x1 : (e == e) = true := by simp
  have x2 : (p == p) = true := by simp
  have x3 : (kb == kb) = true := by simp
  have x4 : (ri == ri) = true := by simp
  have x5 : (nb == nb) = true := by simp
  go_enter Tryd.func9, Tryd.ntmps9
  go_wp2_with (first
    | (go_at_call 11; refine h1.mono ?_; rintro e1 w1 ⟨a1, c1, rfl, ht1, hB1⟩)
    | (go_at_call 15; refine (h2 _).mono ?_; rintro e2 w2 ⟨a2, c2, rfl, ht2, hB2⟩
       have g1 : TkIn w2 (In_ w2) a1 ts.length c1 ts := (ht1.keep fun b o hb => hB2.cell (p := ⟨b, o, none⟩) hb.2).widen fun b hb => Nat.lt_of_lt_of_le hb.2 hB2.size
       have g2 : TkIn w2 (In_ w2) a2 ts.length c2 ts := ht2.widen fun b hb => hb.2
       have hB12 := hB1.trans (hB2.mono hB1.size))
    | (go_at_call 16; refine (same_ref _ _ _ _ _ (by omega) _ g1 g2).mono ?_; rintro e3 w3 ⟨rfl, hB3⟩
       have hB13 := hB12.trans (hB3.mono hB12.size))
    | (go_at_call 12; refine (k1 _).mono ?_; rintro e4 w4 ⟨rfl, hB4⟩
       have hB14 := hB13.trans (hB4.mono hB13.size))
    | (go_at_call 17; refine (k2 _).mono ?_; rintro e5 w5 ⟨rfl, hB5⟩
       have hB15 := hB14.trans (hB5.mono hB14.size))
    | (go_at_call 13; refine (r1 _).mono ?_; rintro e6 w6 ⟨rfl, hB6⟩
       have hB16 := hB15.trans (hB6.mono hB15.size))
    | (go_at_call 18; refine (r2 _).mono ?_; rintro e7 w7 ⟨rfl, rfl⟩)
    | (go_at_call 14; refine (n1 _).mono ?_; rintro e8 w8 ⟨rfl, hB8⟩
       have hB18 := hB16.trans (hB8.mono hB16.size))
    | (go_at_call 19; refine (n2 _).mono ?_; rintro e9 w9 ⟨rfl, hB9⟩
       have hB19 := hB18.trans (hB9.mono hB18.size))
    | fail)
  go_ret
  exact ⟨rfl, hB19⟩
end Go.Proofs.YteomcjfnghbikaaDoor
