/- LogicBack answers true. -/
import Derived.Test.YtogopcejapklgaaGreatDoorMkD
import Derived.Test.YtogopcejapklgaaGreatDoorBunF
import Derived.Test.YtogopcejapklgaaGreatDoorBunR
import Derived.Deep.CutRange
namespace Go.Proofs.YtogopcejapklgaaGreatDoor
open Go Go.RowKit

theorem lex_at (s : ByteArray) {ts : List Tok} (w : World) (hV : Vars w) (h : lexQ s.data.toList = (ts, 0, 0)) : Calls Tryz.prog 11 #[.string s] w fun e w' => ∃ a cap, e = .returned (.tuple #[.slice a ts.length cap, .int .i64 0, .int .i64 0]) ∧
    TkIn w' (In_ w') a ts.length cap ts ∧ Below w.heap.size w w' := by
  refine (lex_any s w hV).mono ?_
  rintro e w' h'
  have e1 : lexR s.data.toList = (ts, 0, 0) := h
  unfold LexPost at h'
  rw [e1] at h'
  obtain ⟨a, cap, he, ht, hb⟩ := h'
  exact ⟨a, cap, he, ht.widen fun b hb => hb.2, hb⟩
theorem parse_at (s : ByteArray) {f : Fm} (w : World) (hV : Vars w) (h : prsR s.data.toList = (f, 0, 0)) : Calls Tryz.prog 12 #[.string s] w fun e w' => ∃ (a : Option Addr) (cap : Nat), e = .returned (.tuple #[.agg #[.int .i64 f.kind, .int .i64 f.prop.k, .int .i64 f.prop.t, .int .i64 f.prop.a, .int .i64 f.prop.n, .slice a f.kids.length cap], .int .i64 0, .int .i64 0]) ∧
    FmIn w' (In_ w') (fmC f.kind f.prop a f.kids.length cap) f ∧ Below w.heap.size w w' := rg_good s w hV f h

set_option maxRecDepth 100000 in
set_option maxHeartbeats 8000000 in
theorem logicBack_walk (al : Option Addr) (nl cl : Nat) (l : List Nat) (am : Option Addr) (nm cm : Nat) (m : List Nat) (w : World) (hV : Vars w) (hl : ByIn w (In_ w) al nl cl l) (hm : ByIn w (In_ w) am nm cm m) :
    Calls Tryz.prog 4 #[.slice al nl cl, .slice am nm cm] w fun e w' => e = .returned (.bool true) ∧ Below w.heap.size w w' := by
  have HV := hid hV
  have Hl := hid hl
  have Hm := hid hm
  clear hV hl hm
  have HMf : Hid (∀ W, Below w.heap.size w W → Calls Tryz.prog 6 #[.slice al nl cl, .int .i64 20] W (MadeP W)) := hid fun W hb => made_any ⟨al, nl, cl, l⟩ W ((Kp.of hb).bytes Hl.out)
  have HMg : Hid (∀ W, Below w.heap.size w W → Calls Tryz.prog 6 #[.slice am nm cm, .int .i64 20] W (MadeP W)) := hid fun W hb => made_any ⟨am, nm, cm, m⟩ W ((Kp.of hb).bytes Hm.out)
  clear Hl Hm
  go_enter Tryz.func4, Tryz.ntmps4
  go_upto_region 4 with (first
    | (go_at_call 7
       refine (awake_any w HV.out).mono ?_
       rintro e w1 ⟨rfl, hb1⟩
       have HB1 := hid hb1
       clear hb1)
    | fail)
  go_upto_region 5 with (first
    | (go_at_call 6
       with_reducible refine (HMf.out w1 HB1.out).mono ?_
       rintro e w2 ⟨f, fa, fc, rfl, hfo, hfs, hff, hb2⟩
       have HB2 := hid (HB1.out.trans (hb2.mono HB1.out.size))
       have HOf := hid (And.intro (okD_up (show 6 ≤ 20 by omega) f hfo) hfs)
       have HFf := hid hff
       clear hb2 hfo hfs hff)
    | (go_at_call 6
       with_reducible refine (HMg.out w2 HB2.out).mono ?_
       rintro e w3 ⟨g, ga, gc, rfl, hgo, hgs, hgf, hb3⟩
       have HB3 := hid (HB2.out.trans (hb3.mono HB2.out.size))
       have HOg := hid (And.intro (okD_up (show 6 ≤ 20 by omega) g hgo) hgs)
       have HFf := hid ((HFf.out.keep fun b o hlt => hb3.cell (p := ⟨b, o, none⟩) hlt).widen fun b hlt => Nat.lt_of_lt_of_le hlt hb3.size)
       have HFg := hid hgf
       clear hb3 hgo hgs hgf)
    | fail)
  generalize hW : World.alloc _ _ = W4
  have HF4 : Hid (RgS w W4 w3.heap.size f fa fc) := by
    subst hW
    exact hid ((RgS.new HB3.out HFf.out).below ((Below.refl _ _).alloc (Nat.le_refl _) _))
  have HG4 : Hid (RgS w W4 (w3.heap.size + 1) g ga gc) := by
    subst hW
    have hb := (Below.refl w3.heap.size w3).alloc (Nat.le_refl _) (.cells #[.int .i64 f.kind, .int .i64 f.prop.k, .int .i64 f.prop.t, .int .i64 f.prop.a, .int .i64 f.prop.n, .slice fa f.kids.length fc] 30)
    have h := RgS.new (a := ga) (cap := gc) (HB3.out.trans (hb.mono HB3.out.size)) ((HFg.out.keep fun b o hlt => hb.cell (p := ⟨b, o, none⟩) hlt).widen fun b hlt => Nat.lt_of_lt_of_le hlt hb.size)
    rw [show (World.alloc w3 _).heap.size = w3.heap.size + 1 by simp] at h
    exact hid h
  have hne : w3.heap.size ≠ w3.heap.size + 1 := by omega
  generalize w3.heap.size + 1 = Bg at *
  generalize w3.heap.size = Bf at *
  clear hW HFf HFg HB3 HB2 HMf HMg
  obtain ⟨ts, hq, htl, hxl, hjl, hpj⟩ := lexQ_small HOf.out.1 HOf.out.2
  have hxg : (txtF g).length ≤ 2000 := by have := txt_len g HOg.out.1; have := HOg.out.2; omega
  have HPf := hid (fun W hb hin => print_any f fa fc HOf.out.1 (by have := HOf.out.2; omega) W (HV.out.next hb) hin)
  have HPg := hid (fun W hb hin => print_any g ga gc HOg.out.1 (by have := HOg.out.2; omega) W (HV.out.next hb) hin)
  have HLx : Hid (∀ W, Below w.heap.size w W → Calls Tryz.prog 11 #[strV (txtF f)] W fun e w' => ∃ a cap, e = .returned (.tuple #[.slice a ts.length cap, .int .i64 0, .int .i64 0]) ∧ TkIn w' (In_ w') a ts.length cap ts ∧ Below W.heap.size W w') :=
    hid fun W hb => lex_at ⟨(txtF f).toArray⟩ W (HV.out.next hb) hq
  have HPa : Hid (∀ W, Below w.heap.size w W → Calls Tryz.prog 12 #[strV (txtF f)] W fun e w' => ∃ (a : Option Addr) (cap : Nat), e = .returned (.tuple #[.agg #[.int .i64 f.kind, .int .i64 f.prop.k, .int .i64 f.prop.t, .int .i64 f.prop.a, .int .i64 f.prop.n, .slice a f.kids.length cap], .int .i64 0, .int .i64 0]) ∧
      FmIn w' (In_ w') (fmC f.kind f.prop a f.kids.length cap) f ∧ Below W.heap.size W w') :=
    hid fun W hb => parse_at ⟨(txtF f).toArray⟩ W (HV.out.next hb) (prsR_txt HOf.out.1 (by have := HOf.out.2; omega))
  have HPb : Hid (∀ (u : ByteArray), u.data.toList = joinN ts → ∀ W, Below w.heap.size w W → Calls Tryz.prog 12 #[.string u] W fun e w' => ∃ (a : Option Addr) (cap : Nat), e = .returned (.tuple #[.agg #[.int .i64 f.kind, .int .i64 f.prop.k, .int .i64 f.prop.t, .int .i64 f.prop.a, .int .i64 f.prop.n, .slice a f.kids.length cap], .int .i64 0, .int .i64 0]) ∧
      FmIn w' (In_ w') (fmC f.kind f.prop a f.kids.length cap) f ∧ Below W.heap.size W w') :=
    hid fun u hu W hb => parse_at u W (HV.out.next hb) (by rw [hu]; exact hpj)
  have HEq := hid (txt_eqF HOf.out.1 (by have := HOf.out.2; omega) HOg.out.1 (by have := HOg.out.2; omega))
  clear hq hpj HV
  generalize txtF f = tf at *
  generalize txtF g = tg at *
  obtain ⟨z0, z1, z2, z3, z4, z5⟩ := HF4.out.six
  go_upto_region 6 with (first
    | (go_at_call 10
       with_reducible refine (HPf.out W4 HF4.out.bl HF4.out.fm).mono ?_
       rintro e w5 ⟨rfl, hb5⟩
       have HF5 := hid (HF4.out.below hb5)
       have HG5 := hid (HG4.out.below hb5)
       clear hb5)
    | fail)
  clear HF4 HG4 z0 z1 z2 z3 z4 z5 HPf
  obtain ⟨z0, z1, z2, z3, z4, z5⟩ := HG5.out.six
  go_upto_region 7 with (first
    | (go_at_call 10
       with_reducible refine (HPg.out w5 HG5.out.bl HG5.out.fm).mono ?_
       rintro e w6 ⟨rfl, hb6⟩
       have HF6 := hid (HF5.out.below hb6)
       have HG6 := hid (HG5.out.below hb6)
       clear hb6)
    | fail)
  clear HF5 HG5 z0 z1 z2 z3 z4 z5 HPg
  go_upto_region 10 with (first
    | (go_at_call 11
       with_reducible refine (HLx.out w6 HF6.out.bl).mono ?_
       rintro e w7 ⟨xa, xc, rfl, hT, hb7⟩
       have HF7 := hid (HF6.out.below hb7)
       have HG7 := hid (HG6.out.below hb7)
       have HT := hid hT
       clear hb7 hT)
    | fail)
  clear HF6 HG6 HLx
  go_loopw [15, 16] (fun uv kv wr => ∃ (k : Nat) (t : ByteArray), k ≤ ts.length ∧ uv = .string t ∧ kv = .int .i64 k ∧ Hid (t.data.toList = joinN (ts.take k)) ∧ w7 = wr) (fun _ kv _ => ts.length - (intOf kv).toNat)
  case atStart => exact ⟨0, ⟨#[]⟩, Nat.zero_le _, rfl, rfl, by simp [Hid, joinN], rfl⟩
  case round =>
    obtain ⟨k, t, hk, rfl, rfl, htj, hw7⟩ := hrel
    subst hw7
    by_cases hlt : k < ts.length
    · obtain ⟨b1, o1, rfl, hb1, p0, p1, p2, p3⟩ := HT.out.at_ k hlt
      have hstep := joinN_take hlt
      have hle := joinN_take_le ts (k + 1)
      generalize ts[k] = u at p0 p1 p2 p3 hstep
      have hlen := congrArg List.length htj.out
      rw [data_len] at hlen
      rw [hstep, List.length_append, List.length_append] at hle
      have hsu : (⟨u.text.toArray⟩ : ByteArray).size = u.text.length := by rw [← data_len]
      have htj2 : Hid ((t ++ ⟨#[10, 32]⟩ ++ ⟨u.text.toArray⟩).data.toList = joinN (ts.take (k + 1))) := by
        show _ = _
        rw [hstep, app_list, app_list, htj.out]
        simp
      have k0 : (0 : Int) ≤ k := by omega
      have k1 : (k : Int) < ts.length := by omega
      have hts1 : t.size ≤ 6000 := by omega
      have hts2 : (t ++ ⟨#[10, 32]⟩).size ≤ 7000 := by rw [ByteArray.size_append]; have : (⟨#[10, 32]⟩ : ByteArray).size = 2 := rfl; omega
      have hts3 : (⟨u.text.toArray⟩ : ByteArray).size ≤ 6000 := by omega
      clear hstep hle hlen hsu htj p0 p2 p3
      go_wp2_with fail
      refine ⟨⟨k + 1, _, hlt, rfl, by simp, htj2, trivial⟩, by simp [intOf]; omega⟩
    · obtain rfl : k = ts.length := by omega
      have htj := htj.out
      rw [List.take_length] at htj
      have HPc := hid (HPb.out t htj)
      have k1 : decide ((ts.length : Int) < ts.length) = false := decide_eq_false (by omega)
      clear HPb htj
      go_upto_region 14 with (first
        | (go_at_call 12
           with_reducible refine (HPa.out w7 HF7.out.bl).mono ?_
           rintro e w8 ⟨aa, ac, rfl, hA, hb8⟩
           have HF8 := hid (HF7.out.below hb8)
           have HG8 := hid (HG7.out.below hb8)
           have HA := hid hA
           clear hb8 hA)
        | fail)
      generalize hW : World.alloc w8 _ = W8
      have HAl : Hid (Below w8.heap.size w8 W8) := by subst hW; exact hid ((Below.refl _ _).alloc (Nat.le_refl _) _)
      have HF9 : Hid (RgS w W8 Bf f fa fc) := hid (HF8.out.below HAl.out)
      have HG9 : Hid (RgS w W8 Bg g ga gc) := hid (HG8.out.below HAl.out)
      have HA9 : Hid (RgS w8 W8 w8.heap.size f aa ac) := by subst hW; exact hid (RgS.new (Below.refl _ _) HA.out)
      have hAf : Bf < w8.heap.size := HF8.out.lt
      have hAg : Bg < w8.heap.size := HG8.out.lt
      generalize w8.heap.size = Ba at *
      clear hW HA HF8 HG8 HAl HF7 HG7 HPa
      go_upto_region 15 with (first
        | (go_at_call 12
           with_reducible refine (HPc.out W8 HF9.out.bl).mono ?_
           rintro e w9 ⟨ba, bc, rfl, hB, hb9⟩
           have HF10 := hid (HF9.out.below hb9)
           have HG10 := hid (HG9.out.below hb9)
           have HA10 := hid (HA9.out.below hb9)
           have HB := hid hB
           clear hb9 hB)
        | fail)
      generalize hW : World.alloc w9 _ = W9
      have HAl : Hid (Below w9.heap.size w9 W9) := by subst hW; exact hid ((Below.refl _ _).alloc (Nat.le_refl _) _)
      have HF11 : Hid (RgS w W9 Bf f fa fc) := hid (HF10.out.below HAl.out)
      have HG11 : Hid (RgS w W9 Bg g ga gc) := hid (HG10.out.below HAl.out)
      have HA11 : Hid (RgS w8 W9 Ba f aa ac) := hid (HA10.out.below HAl.out)
      have HB11 : Hid (RgS w9 W9 w9.heap.size f ba bc) := by subst hW; exact hid (RgS.new (Below.refl _ _) HB.out)
      generalize w9.heap.size = Bb at *
      clear hW HB HF10 HG10 HA10 HAl HF9 HG9 HA9 HPc
      obtain ⟨z0, z1, z2, z3, z4, z5⟩ := HF11.out.six
      obtain ⟨y0, y1, y2, y3, y4, y5⟩ := HG11.out.six
      obtain ⟨x0, x1, x2, x3, x4, x5⟩ := HA11.out.six
      obtain ⟨q0, q1, q2, q3, q4, q5⟩ := HB11.out.six
      have HS1 : Hid (Calls Tryz.prog 13 #[.agg #[.int .i64 f.kind, .int .i64 f.prop.k, .int .i64 f.prop.t, .int .i64 f.prop.a, .int .i64 f.prop.n, .slice aa f.kids.length ac], .agg #[.int .i64 f.kind, .int .i64 f.prop.k, .int .i64 f.prop.t, .int .i64 f.prop.a, .int .i64 f.prop.n, .slice fa f.kids.length fc]] W9 fun e w' => e = .returned (.bool true) ∧ Below W9.heap.size W9 w') := by
        have h := rsame_any f f _ _ W9 HA11.out.fm HF11.out.fm
        rw [eqF_self] at h
        exact hid h
      have HS2 : Hid (∀ W, RgS w9 W Bb f ba bc → RgS w W Bf f fa fc → Calls Tryz.prog 13 #[.agg #[.int .i64 f.kind, .int .i64 f.prop.k, .int .i64 f.prop.t, .int .i64 f.prop.a, .int .i64 f.prop.n, .slice ba f.kids.length bc], .agg #[.int .i64 f.kind, .int .i64 f.prop.k, .int .i64 f.prop.t, .int .i64 f.prop.a, .int .i64 f.prop.n, .slice fa f.kids.length fc]] W fun e w' => e = .returned (.bool true) ∧ Below W.heap.size W w') := hid fun W h1 h2 => by
        have h := rsame_any f f _ _ W h1.fm h2.fm
        rw [eqF_self] at h
        exact h
      have HS3 : Hid (∀ W, RgS w W Bf f fa fc → RgS w W Bg g ga gc → Calls Tryz.prog 14 #[.agg #[.int .i64 f.kind, .int .i64 f.prop.k, .int .i64 f.prop.t, .int .i64 f.prop.a, .int .i64 f.prop.n, .slice fa f.kids.length fc], .agg #[.int .i64 g.kind, .int .i64 g.prop.k, .int .i64 g.prop.t, .int .i64 g.prop.a, .int .i64 g.prop.n, .slice ga g.kids.length gc]] W fun e w' => e = .returned (.bool (eqF f g)) ∧ Below W.heap.size W w') := hid fun W h1 h2 => lsame_any f g _ _ W h1.fm h2.fm
      go_wp2_with (first
        | (go_at_call 13
           with_reducible refine HS1.out.mono ?_
           rintro e w10 ⟨rfl, hb10⟩
           have HF12 := hid (HF11.out.below hb10)
           have HG12 := hid (HG11.out.below hb10)
           have HB12 := hid (HB11.out.below hb10)
           obtain ⟨z0, z1, z2, z3, z4, z5⟩ := HF12.out.six
           obtain ⟨y0, y1, y2, y3, y4, y5⟩ := HG12.out.six
           obtain ⟨q0, q1, q2, q3, q4, q5⟩ := HB12.out.six
           clear hb10)
        | (go_at_call 13
           with_reducible refine (HS2.out w10 HB12.out HF12.out).mono ?_
           rintro e w11 ⟨rfl, hb11⟩
           have HF13 := hid (HF12.out.below hb11)
           have HG13 := hid (HG12.out.below hb11)
           obtain ⟨z0, z1, z2, z3, z4, z5⟩ := HF13.out.six
           obtain ⟨y0, y1, y2, y3, y4, y5⟩ := HG13.out.six
           clear hb11)
        | (go_at_call 14
           with_reducible refine (HS3.out w11 HF13.out HG13.out).mono ?_
           rintro e w12 ⟨rfl, hb12⟩
           have HF14 := hid (HF13.out.below hb12)
           clear hb12)
        | fail)
      go_ret
      exact ⟨ret_bool (by rw [HEq.out]; simp), HF14.out.bl⟩
end Go.Proofs.YtogopcejapklgaaGreatDoor
