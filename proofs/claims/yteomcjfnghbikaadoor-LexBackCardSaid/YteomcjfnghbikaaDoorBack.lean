/- LexBack's walk. -/
import Derived.Test.YteomcjfnghbikaaDoorPie
import Derived.Test.YteomcjfnghbikaaDoorLexW
import Derived.Test.YteomcjfnghbikaaDoorLexR
import Derived.Deep.CutRange
namespace Go.Proofs.YteomcjfnghbikaaDoor
open Go.RowKit

theorem lexR_at {L : List UInt8} {s : ByteArray} (hs : s.data.toList = L) {r : List Tok × Int × Int} (hr : lexR L = r) (w : World) (hv : Vars w) :
    Calls Tryd.prog 11 #[.string s] w fun e w' => ∃ a cap, e = .returned (.tuple #[.slice a r.1.length cap, .int .i64 r.2.1, .int .i64 r.2.2]) ∧ TkIn w' (fun b => w.heap.size ≤ b ∧ b < w'.heap.size) a r.1.length cap r.1 ∧ Below w.heap.size w w' := lex_at hs hr w hv

set_option maxRecDepth 100000 in
set_option maxHeartbeats 16000000 in
theorem lexBack_walk (s : ByteArray) (a : Option Addr) (n cap : Nat) (cs : List Nat) (small : Bool) (w : World) (hv : Vars w) (hl : ByIn w (In_ w) a n cap cs) :
    Calls Tryd.prog 5 #[.string s, .slice a n cap, .bool small] w fun e w' => e = .returned (.bool true) ∧ Below w.heap.size w w' := by
  have h1 := awake_any w hv
  go_enter Tryd.func5, Tryd.ntmps5
  go_upto_region 4 with (go_at_call 8; refine h1.mono ?_; rintro e w1 ⟨rfl, hB1⟩; have hv1 := hv.next hB1)
  go_cut [25] from 20 to 24 (fun v wx => v = .bool (small || decide ((600 : Int) < s.size)) ∧ wx = w1)
  case first =>
    cases small with
    | true =>
      go_wp2_with fail
      go_meet
      case rel => exact ⟨by simp, rfl⟩
    | false =>
      generalize decide ((600 : Int) < s.size) = d6
      go_wp2_with fail
      go_meet
      case rel => exact ⟨by simp, rfl⟩
  case rest =>
  obtain ⟨rfl, hwc⟩ := hcut
  subst hwc
  have hbb : (small || decide ((600 : Int) < s.size)) = true ∨ ((small || decide ((600 : Int) < s.size)) = false ∧ s.size ≤ 600) := by
    cases small
    · by_cases h : (600 : Int) < s.size
      · exact .inl (by simp [h])
      · exact .inr ⟨by simp; omega, by omega⟩
    · exact .inl rfl
  generalize (small || decide ((600 : Int) < s.size)) = bb at hbb ⊢
  go_upto_if 25 with fail
  go_cut [0] from 26 to 27 (fun v wx => ∃ S : ByteArray, v = .string S ∧ S.size ≤ 600 ∧ Below w.heap.size w wx)
  case first =>
    have hp := pieces_any a n cap cs wc ((Kp.of hB1).bytes hl)
    rcases hbb with rfl | ⟨rfl, h6⟩
    · go_wp2_with (first | (go_at_call 10; refine hp.mono ?_; rintro e w2 ⟨S, rfl, _, hS, hB2⟩) | fail)
      go_meet
      case rel => exact ⟨S, rfl, by omega, hB1.trans (hB2.mono hB1.size)⟩
    · go_wp2_with fail
      go_meet
      case rel => exact ⟨s, rfl, h6, hB1⟩
  case rest =>
    obtain ⟨S, rfl, hS, hBc⟩ := hcut
    have hvc := hv.next hBc
    have hSI : (S.size : Int) ≤ 600 := by omega
    clear hl h1 hB1 hv1
    rcases lexR_cases S.data.toList (by rw [data_len]; exact hS) with ⟨j, hj, hr⟩ | ⟨ts, us, hr, htx, hr2, hus, hlen, hjl, hal⟩
    · rw [data_len] at hj
      have j0 : (0 : Int) ≤ j := by omega
      have j1 : (j : Int) < S.size := by omega
      have d1 : decide ((0 : Int) ≤ j) = true := decide_eq_true j0
      have d2 : decide ((j : Int) < S.size) = true := decide_eq_true j1
      have hL := lexR_at rfl hr wc hvc
      go_wp2_with (first | (go_at_call 11; refine hL.mono ?_; rintro e w2 ⟨a1, c1, rfl, _, hB2⟩) | fail)
      go_ret
      exact ⟨rfl, hBc.trans (hB2.mono hBc.size)⟩
    · have hL := lexR_at rfl hr wc hvc
      dsimp only at hL
      go_wp2_with (first | (go_at_call 11; refine hL.mono ?_; rintro e w2 ⟨a1, c1, rfl, ht1, hB2⟩) | fail)
      have hB02 := hBc.trans (hB2.mono hBc.size)
      have hv2 := hv.next hB02
      have g1 : TkIn w2 (In_ w2) a1 ts.length c1 ts := ht1.widen fun b hb => hb.2
      clear ht1 hL
      go_loopw [11, 12] (fun tv iv wr => ∃ (k : Nat) (t : ByteArray), k ≤ ts.length ∧ tv = .string t ∧ iv = .int .i64 k ∧ Hid (t.data.toList = joinB (ts.take k)) ∧ Kp w2 wr) (fun _ iv _ => ts.length - (intOf iv).toNat)
      case atStart => exact ⟨0, ⟨#[]⟩, Nat.zero_le _, rfl, rfl, by simp [Hid, joinB], Kp.refl _⟩
      case round =>
        obtain ⟨k, t, hk, rfl, rfl, htj, hK⟩ := hrel
        by_cases hlt : k < ts.length
        · obtain ⟨b1, o1, rfl, hb1, p0, p1, p2, p3⟩ := (hK.tk g1).at_ k hlt
          have hx := htx ts[k] (List.getElem_mem hlt)
          have hstep : joinB (ts.take (k + 1)) = joinB (ts.take k) ++ 32 :: ts[k].text := by
            rw [List.take_succ_eq_append_getElem hlt]
            unfold joinB
            rw [List.flatMap_append]
            simp only [List.flatMap_cons, List.flatMap_nil, List.append_nil]
          have hle : (joinB (ts.take (k + 1))).length ≤ (joinB ts).length := by
            conv => rhs; rw [← List.take_append_drop (k + 1) ts]
            simp only [joinB, List.flatMap_append, List.length_append]
            omega
          generalize ts[k] = u at p0 p1 p2 p3 hx hstep
          obtain ⟨hx1, hx2⟩ := hx
          rw [data_len] at hx1
          have htsz : t.size + 1 + u.text.length ≤ 2001 := by
            have e := congrArg List.length htj.out
            rw [data_len] at e
            rw [hstep, List.length_append, List.length_cons] at hle
            omega
          have hext : (S.extract u.place (u.place + u.text.length)).data.toList = u.text := by rw [ext_mid, ← hx2]
          have heq : ((S.extract u.place (u.place + u.text.length)).toList == u.text) = true := by rw [Lib.toList_data, hext]; simp
          have hsu : (⟨u.text.toArray⟩ : ByteArray).size = u.text.length := by rw [← data_len]
          have htj2 : Hid ((t ++ ⟨#[32]⟩ ++ ⟨u.text.toArray⟩).data.toList = joinB (ts.take (k + 1))) := by
            show _ = _
            rw [hstep, app_list, app_list, htj.out]
            simp
          generalize hm : u.text.length = m at *
          generalize hpl : u.place = p at *
          have k0 : (0 : Int) ≤ k := by omega
          have k1 : (k : Int) < ts.length := by omega
          have q0 : (0 : Int) ≤ p := by omega
          have q1 : decide ((p : Int) < 0) = false := decide_eq_false (by omega)
          have q2 : IntKind.i64.wrap ((p : Int) + m) = (p : Int) + m := IntWalk.i64_in _ (by omega)
          have q3 : decide ((S.size : Int) < (p : Int) + m) = false := decide_eq_false (by omega)
          have q4 : (p : Int) ≤ (p : Int) + m := by omega
          have q5 : (p : Int) + m ≤ S.size := by omega
          have q6 : p ≤ p + m := by omega
          have q7 : ((p : Int) + m).toNat = p + m := by omega
          have q8 : (0 : Int) ≤ (p : Int) + m := by omega
          have Hh := hid hext
          clear hx2 hext hstep hle
          have hts1 : t.size ≤ 3000 := by omega
          have hts2 : (t ++ ⟨#[32]⟩).size ≤ 3000 := by rw [ByteArray.size_append]; have : (⟨#[32]⟩ : ByteArray).size = 1 := rfl; omega
          have hts3 : (⟨u.text.toArray⟩ : ByteArray).size ≤ 3000 := by omega
          go_wp2_with fail
          go_quiet (fail)
          have hK2 := drewN_kp hK nq
          go_wp2_with fail
          go_roundw
          case rel => exact ⟨k + 1, _, hlt, rfl, by simp, htj2, hK2⟩
          case measure => simp [intOf]; omega
        · obtain rfl : k = ts.length := by omega
          rw [List.take_length] at htj
          have hL := lexR_at htj.out hr2 wr (hv2.below hK.1 hv2.size)
          dsimp only at hL
          rw [hus] at hL
          have gk := hK.tk g1
          have hz0 : ((ts.length : Int) == ts.length) = true := by simp
          clear htx
          go_wp2_with (first | (go_at_call 11; refine hL.mono ?_; rintro e w3 ⟨a2, c2, rfl, ht2, hB3⟩) | fail)
          have hB03 : Below w.heap.size w w3 := (hB02.trans (hK.1.mono hB02.size)).trans (hB3.mono (by have := hB02.size; have := hK.1.size; omega))
          have ga : TkIn w3 (In_ w3) a1 ts.length c1 ts := (Kp.of hB3).tk gk
          have gb : TkIn w3 (In_ w3) a2 ts.length c2 us := by
            have : TkIn w3 (In_ w3) a2 us.length c2 us := by
              rw [hus]
              exact ht2.widen fun b hb => hb.2
            rwa [hus] at this
          clear ht2 gk hL g1 htj hB3 hK
          go_loopw [16] (fun iv w9 => ∃ k : Nat, k ≤ ts.length ∧ iv = .int .i64 k ∧ Kp w3 w9) (fun iv _ => ts.length - (intOf iv).toNat)
          case atStart => exact ⟨0, Nat.zero_le _, rfl, Kp.refl _⟩
          case round =>
            obtain ⟨k, hk, rfl, hK⟩ := hrel
            by_cases hlt : k < ts.length
            · obtain ⟨b1, o1, rfl, hb1, p0, p1, p2, p3⟩ := (hK.tk ga).at_ k hlt
              obtain ⟨b2, o2, rfl, hb2, q0, q1, q2, q3⟩ := (hK.tk gb).at_ k (by omega)
              obtain ⟨e1, e2, e3⟩ := hal k (by omega) hlt
              rw [e1] at q0
              rw [e2] at q1
              rw [e3] at q2
              generalize ts[k] = u at p0 p1 p2 p3 q0 q1 q2
              have k0 : (0 : Int) ≤ k := by omega
              have k1 : (k : Int) < ts.length := by omega
              have heq : (u.text == u.text) = true := by simp
              have Hus := hid hus
              clear hus e1 e2 e3 q3
              go_wp2_with fail
              go_quiet (fail)
              have hK2 := drewN_kp hK nq
              go_wp2_with fail
              go_roundw
              case rel => exact ⟨k + 1, hlt, by simp, hK2⟩
              case measure => simp [intOf]; omega
            · obtain rfl : k = ts.length := by omega
              go_wp2_with fail
              go_ret
              exact ⟨rfl, hB03.trans (hK.1.mono hB03.size)⟩
end Go.Proofs.YteomcjfnghbikaaDoor
