/- LexParts's walk. -/
import Derived.Test.YteomcjfnghbikaaDoorPie
import Derived.Test.YteomcjfnghbikaaDoorLexX
namespace Go.Proofs.YteomcjfnghbikaaDoor
open Go.RowKit

theorem cat_two (S T : ByteArray) : (S ++ ⟨#[32]⟩ ++ T).data.toList = S.data.toList ++ 32 :: T.data.toList := by rw [app_list, app_list]; simp

set_option maxRecDepth 100000 in
set_option maxHeartbeats 16000000 in
theorem lexParts_walk (a : Option Addr) (n cap : Nat) (cs : List Nat) (a' : Option Addr) (n' cap' : Nat) (cs' : List Nat) (w : World) (hv : Vars w) (hl : ByIn w (In_ w) a n cap cs) (hl' : ByIn w (In_ w) a' n' cap' cs') :
    Calls Tryd.prog 6 #[.slice a n cap, .slice a' n' cap'] w fun e w' => e = .returned (.bool true) ∧ Below w.heap.size w w' := by
  have h1 := awake_any w hv
  have hP : ∀ S T : ByteArray, S.size ≤ 140 → T.size ≤ 140 → Parts (lexR S.data.toList) (lexR T.data.toList) (lexR (S.data.toList ++ 32 :: T.data.toList)) := fun S T hS hT =>
    parts_of S.data.toList T.data.toList (by rw [data_len]; omega) (by rw [data_len]; omega)
  go_enter Tryd.func6, Tryd.ntmps6
  go_wp2_with (first
    | (go_at_call 8; refine h1.mono ?_; clear h1; rintro e w1 ⟨rfl, hB1⟩
       have hv1 := hv.next hB1
       have hp1 := pieces_any a n cap cs w1 ((Kp.of hB1).bytes hl))
    | (go_at_call 10; refine hp1.mono ?_; clear hp1; rintro e w2 ⟨S, rfl, -, hS, hB2⟩
       have hB02 := hB1.trans (hB2.mono hB1.size)
       have hp2 := pieces_any a' n' cap' cs' w2 ((Kp.of hB02).bytes hl'))
    | (go_at_call 10; refine hp2.mono ?_; clear hp2; rintro e w3 ⟨T, rfl, -, hT, hB3⟩
       have hB03 := hB02.trans (hB3.mono hB02.size)
       have hpt := hP S T hS hT
       have hz1 : S.size ≤ 1000 := by omega
       have hz2 : T.size ≤ 1000 := by omega
       have hz3 : (S ++ ⟨#[32]⟩).size ≤ 1000 := by rw [ByteArray.size_append]; have : (⟨#[32]⟩ : ByteArray).size = 1 := rfl; omega
       have x1 := lex_at rfl rfl w3 (hv.next hB03) (s := S))
    | (go_at_call 11; refine x1.mono ?_; clear x1; rintro e w4 ⟨aa, ca, rfl, ta, hB4⟩
       have hB04 := hB03.trans (hB4.mono hB03.size)
       have x2 := lex_at rfl rfl w4 (hv.next hB04) (s := T))
    | (go_at_call 11; refine x2.mono ?_; clear x2; rintro e w5 ⟨ab, cb, rfl, tb, hB5⟩
       have hB05 := hB04.trans (hB5.mono hB04.size)
       have x3 := lex_at (cat_two S T) rfl w5 (hv.next hB05))
    | (go_at_call 11; refine x3.mono ?_; clear x3; rintro e w6 ⟨ac, cc, rfl, tc, hB6⟩
       have hB06 := hB05.trans (hB6.mono hB05.size)
       refine Hid.out ?_)
    | fail)
  refine hid ?_
  have ga : TkIn w6 (In_ w6) aa (lexR S.data.toList).1.length ca (lexR S.data.toList).1 := ((ta.keep fun b o hb => hB5.cell (p := ⟨b, o, none⟩) hb.2).keep (w' := w6) fun b o hb => hB6.cell (p := ⟨b, o, none⟩) (Nat.lt_of_lt_of_le hb.2 hB5.size)).widen fun b hb => Nat.lt_of_lt_of_le hb.2 (Nat.le_trans hB5.size hB6.size)
  have gb : TkIn w6 (In_ w6) ab (lexR T.data.toList).1.length cb (lexR T.data.toList).1 := (tb.keep fun b o hb => hB6.cell (p := ⟨b, o, none⟩) hb.2).widen fun b hb => Nat.lt_of_lt_of_le hb.2 hB6.size
  have gc : TkIn w6 (In_ w6) ac (lexR (S.data.toList ++ 32 :: T.data.toList)).1.length cc (lexR (S.data.toList ++ 32 :: T.data.toList)).1 := tc.widen fun b hb => hb.2
  have la := lexR_len S.data.toList
  have lb := lexR_len T.data.toList
  have lc := lexR_len (S.data.toList ++ 32 :: T.data.toList)
  clear ta tb tc hP hl hl' hB1 hB2 hB3 hB4 hB5 hB6 hB02 hB03 hB04 hB05 hv1
  generalize lexR S.data.toList = ra at *
  generalize lexR T.data.toList = rb at *
  generalize lexR (S.data.toList ++ 32 :: T.data.toList) = rc at *
  obtain ⟨xs, ea, pa⟩ := ra
  obtain ⟨bs, eb, pb⟩ := rb
  obtain ⟨ds, ec, pc⟩ := rc
  unfold Parts at hpt
  dsimp only at hpt ga gb gc la lb lc ⊢
  rcases hpt with ⟨h, rfl⟩ | ⟨rfl, rfl, rfl, hlen0, hlen, hi1, hi2⟩
  · rcases h with rfl | ⟨rfl, rfl⟩
    all_goals
      go_wp2_with fail
      go_ret
      exact ⟨rfl, hB06⟩
  · have hnz : ((ds.length : Int) == (xs.length : Int) + bs.length - 1) = true := by
      have : (ds.length : Int) = (xs.length : Int) + bs.length - 1 := by omega
      simpa using this
    have w1 : IntKind.i64.wrap ((xs.length : Int) + bs.length) = (xs.length : Int) + bs.length := IntWalk.i64_in _ (by omega)
    have w2 : IntKind.i64.wrap ((xs.length : Int) + bs.length - 1) = (xs.length : Int) + bs.length - 1 := IntWalk.i64_in _ (by omega)
    have w3 : (0 : Int) ≤ (xs.length : Int) + bs.length - 1 := by omega
    have Hi1 := hid hi1
    have Hi2 := hid hi2
    have Hlen := hid hlen
    have hne : ((ds.length : Int) != (xs.length : Int) + bs.length - 1) = false := by simp only [bne, hnz]; rfl
    clear hi1 hi2 hlen
    go_wp2_with fail
    clear w1 w2 w3 hnz hne
    go_loopw [17] (fun iv wr => ∃ k : Nat, k ≤ ds.length ∧ iv = .int .i64 k ∧ Kp w6 wr) (fun iv _ => ds.length - (intOf iv).toNat)
    case atStart => exact ⟨0, Nat.zero_le _, rfl, Kp.refl _⟩
    case round =>
      obtain ⟨k, hk, rfl, hK⟩ := hrel
      by_cases hlt : k < ds.length
      · obtain ⟨b3, o3, rfl, hb3, r0, r1, r2, r3⟩ := (hK.tk gc).at_ k hlt
        have k0 : (0 : Int) ≤ k := by omega
        have k1 : (k : Int) < ds.length := by omega
        have v1 : IntKind.i64.wrap ((k : Int) - xs.length) = (k : Int) - xs.length := IntWalk.i64_in _ (by omega)
        have v2 : IntKind.i64.wrap ((k : Int) - xs.length + 1) = (k : Int) - xs.length + 1 := IntWalk.i64_in _ (by omega)
        by_cases hc : k + 1 < xs.length
        · obtain ⟨e1, e2⟩ := Hi1.out k hlt hc
          obtain ⟨b1, o1, rfl, hb1, p0, p1, p2, p3⟩ := (hK.tk ga).at_ k (by omega)
          rw [e1] at r0
          rw [e2] at r1
          generalize xs[k] = u at p0 p1 r0 r1
          have heq : (u.text == u.text) = true := by simp
          have d1 : decide ((k : Int) - xs.length + 1 < 0) = true := decide_eq_true (by omega)
          have d2 : decide ((0 : Int) ≤ (k : Int) - xs.length + 1) = false := decide_eq_false (by omega)
          have kx : (k : Int) < xs.length := by omega
          clear e1 e2 p2 p3 r2 r3
          go_wp2_with fail
          go_quiet (fail)
          have hK2 := drewN_kp hK nq
          go_wp2_with fail
          go_roundw
          case rel => exact ⟨k + 1, hlt, by simp, hK2⟩
          case measure => simp [intOf]; omega
        · obtain ⟨j, hj⟩ : ∃ j, j = k + 1 - xs.length := ⟨_, rfl⟩
          have hjb : j < bs.length := by have := Hlen.out; omega
          obtain ⟨e1, e2⟩ := Hi2.out k j hlt hjb (by omega)
          obtain ⟨b1, o1, rfl, hb1, p0, p1, p2, p3⟩ := (hK.tk gb).at_ j hjb
          rw [e1] at r0
          rw [e2] at r1
          generalize bs[j] = u at p0 p1 r0 r1
          have heq : (u.text == u.text) = true := by simp
          have hjj : (k : Int) - xs.length + 1 = (j : Int) := by omega
          rw [hjj] at v2
          have d1 : decide ((j : Int) < 0) = false := decide_eq_false (by omega)
          have d2 : decide ((0 : Int) ≤ (j : Int)) = true := decide_eq_true (by omega)
          have j0 : (0 : Int) ≤ j := by omega
          have j1 : (j : Int) < bs.length := by omega
          clear e1 e2 p2 p3 r2 r3 hj
          go_wp2_with fail
          go_quiet (fail)
          have hK2 := drewN_kp hK nq
          go_wp2_with fail
          go_roundw
          case rel => exact ⟨k + 1, hlt, by simp, hK2⟩
          case measure => simp [intOf]; omega
      · obtain rfl : k = ds.length := by omega
        go_wp2_with fail
        go_ret
        exact ⟨rfl, hB06.trans (hK.1.mono hB06.size)⟩
end Go.Proofs.YteomcjfnghbikaaDoor
