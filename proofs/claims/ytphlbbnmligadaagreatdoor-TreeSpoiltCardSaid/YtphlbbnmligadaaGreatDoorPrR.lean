/- The document's texts: numbers, expressions. -/
import Derived.Test.YtphlbbnmligadaaGreatDoorBunP
import Derived.Deep.RegionHeld3
import Derived.BigQuiet
namespace Go.Proofs.YtphlbbnmligadaaGreatDoor
open Go.RowKit

def strL (L : List UInt8) : ByteArray := ⟨L.toArray⟩
theorem strL_size (L : List UInt8) : (strL L).size = L.length := by simp [strL, ByteArray.size]
theorem strL_app (a b : List UInt8) : strL a ++ strL b = strL (a ++ b) := by
  unfold strL
  rw [ByteArray.mk_append_mk]

theorem add_str {a b c : List UInt8} (h : a.length + b.length ≤ 1000000000000) (hc : c = a ++ b) (W : World) : (Op.stringOp .add (strL a) (strL b)).run Tryz.prog W = .ok (.string (strL c)) W := by
  rw [run_string_add_sum W _ _ (by rw [strL_size, strL_size]; omega), strL_app, hc]

set_option maxHeartbeats 1000000 in
theorem digits_small (n : Int) (h0 : 0 ≤ n) (h1 : n < 10) (w : World) : Calls Tryz.prog 63 #[.int .i64 n] w fun e w' => e = .returned (.string (strL (digB n))) ∧ Below w.heap.size w w' := by
  have e1 : n % 10 = n := by omega
  have w1 : IntKind.i64.wrap (48 + n) = 48 + n := IntWalk.i64_in _ (by omega)
  have w2 : IntKind.u8.wrap (48 + n) = 48 + n := by simp [IntKind.wrap, IntKind.signed, IntKind.bits]; omega
  have hc := fun W => conv_one W (48 + n)
  have hd : Hid (strL (digB n) = ⟨#[UInt8.ofNat (48 + n).toNat]⟩) := by
    show _ = _
    unfold digB strL
    rw [if_pos h1, show (48 + n).toNat = 48 + n.toNat by omega]
  go_enter Tryz.func63, Tryz.ntmps63
  go_wp2_with fail
  go_ret
  exact ⟨by rw [hd.out]; rfl, (Below.refl _ _).alloc (Nat.le_refl _) _⟩

set_option maxRecDepth 100000 in
set_option maxHeartbeats 1000000 in
theorem digits_any (n : Int) (h0 : 0 ≤ n) (h1 : n < 100) (w : World) : Calls Tryz.prog 63 #[.int .i64 n] w fun e w' => e = .returned (.string (strL (digB n))) ∧ Below w.heap.size w w' := by
  by_cases h10 : n < 10
  · exact digits_small n h0 h10 w
  obtain ⟨b, hb⟩ : ∃ b, b = n % 10 := ⟨_, rfl⟩
  obtain ⟨a, ha⟩ : ∃ a, a = n / 10 := ⟨_, rfl⟩
  have e1 : n % 10 = b := hb.symm
  have w1 : IntKind.i64.wrap (48 + b) = 48 + b := IntWalk.i64_in _ (by omega)
  have w2 : IntKind.u8.wrap (48 + b) = 48 + b := by simp [IntKind.wrap, IntKind.signed, IntKind.bits]; omega
  obtain ⟨S2, hS2⟩ : ∃ S2, S2 = strL [UInt8.ofNat (48 + b).toNat] := ⟨_, rfl⟩
  have hc : ∀ W : World, (convert 22 9 (.slice (some ⟨W.heap.size, 0, none⟩) 1 1)).run Tryz.prog (W.alloc (.cells #[.int .u8 (48 + b)] 5)) = .ok (.string S2) (W.alloc (.cells #[.int .u8 (48 + b)] 5)) := fun W => by rw [hS2]; exact conv_one W (48 + b)
  have hcall := hid (fun W => digits_small (n / 10) (by omega) (by omega) W)
  rw [← ha] at hcall
  obtain ⟨S1, hS1⟩ : ∃ S1, S1 = strL (digB a) := ⟨_, rfl⟩
  obtain ⟨T1, hT1⟩ : ∃ T1, T1 = strL (digB n) := ⟨_, rfl⟩
  have ha1 : ∀ W, (Op.stringOp .add S1 S2).run Tryz.prog W = .ok (.string T1) W := fun W => by
    rw [hS1, hS2, hT1]
    refine add_str (by have := digB_len a; simp; omega) ?_ W
    unfold digB
    rw [if_neg h10, if_pos (by omega : a < 10)]
    have e3 : (48 + b).toNat = 48 + n.toNat % 10 := by omega
    have e4 : 48 + a.toNat = 48 + n.toNat / 10 := by omega
    rw [e3, e4]
    rfl
  have hfin : Hid (strL (digB n) = T1) := hT1.symm
  rw [← hS1, ha] at hcall
  have d10 : decide (n < 10) = false := decide_eq_false h10
  clear hS1 hS2 hT1 hb h10
  go_enter Tryz.func63, Tryz.ntmps63
  go_upto_region 2 with fail
  clear e1 w1 w2 hc ha
  go_upto_region 4 with fail
  generalize n % 10 = m at *
  clear d10
  go_wp2_with fail
  refine (hcall.out _).mono ?_
  rintro e w5 ⟨rfl, hb2⟩
  have HB := hid (((Below.refl w.heap.size w).alloc (Nat.le_refl _) (.cells #[.int .u8 (48 + b)] 5)).trans (hb2.mono (by simp)))
  clear hb2
  go_wp2_with fail
  go_ret
  exact ⟨by rw [hfin.out]; rfl, HB.out⟩

/-- An expression's text, told. -/
def TxtC (x : Ex) : Prop := ∀ (cs : List Value) (w : World), ExIn w (In_ w) cs x →
  Calls Tryz.prog 133 #[.agg cs.toArray] w fun e w' => e = .returned (.string (strL x.txt)) ∧ Below w.heap.size w w'

set_option maxRecDepth 100000 in
set_option maxHeartbeats 4000000 in
theorem text_step (dom : Int) (hdom : dom ≤ 16) (d : Nat) (hd : d < 20) (ih : ∀ x : Ex, x.fit dom d = true → TxtC x) (x : Ex) (hx : x.fit dom (d + 1) = true) : TxtC x := by
  rcases x with ⟨k, n, o, l⟩
  intro cs w hin
  obtain ⟨a, cap, rfl, hle, hmx, -, -, -, hk⟩ := hin.open_
  generalize hW : w.alloc (.cells #[.int .i64 k, .int .i64 n, .int .u8 o, .slice a l.length cap] 44) = W0
  have hB : Below w.heap.size w W0 := by subst hW; exact (Below.refl _ _).alloc (Nat.le_refl _) _
  have z0 : w.heap.size < W0.heap.size := by subst hW; simp
  have c0 : W0.cell? ⟨w.heap.size, 0, none⟩ = some (.int .i64 k) := by subst hW; go_simp
  have c1 : W0.cell? ⟨w.heap.size, 1, none⟩ = some (.int .i64 n) := by subst hW; go_simp
  have c2 : W0.cell? ⟨w.heap.size, 2, none⟩ = some (.int .u8 o) := by subst hW; go_simp
  have c3 : W0.cell? ⟨w.heap.size, 3, none⟩ = some (.slice a l.length cap) := by subst hW; go_simp
  have HB := hid hB
  have hKB : Kp w W0 := Kp.of hB
  unfold maxLen at hmx
  rcases Ex.fit_open hx with ⟨rfl, n0, n1, -, rfl⟩ | ⟨rfl, n0, n1, -, rfl⟩ | ⟨rfl, rfl, ho, x, y, rfl, hfx, hfy⟩
  · simp only [List.length_nil] at hW
    have hWx := hid hW
    have ht : Hid (Ex.txt (.mk 1 n o []) = digB n) := Ex.txt_num n o []
    have hcall := hid (fun W => digits_any n n0 (by omega) W)
    clear hW hB hKB hin hk hx
    go_enter Tryz.func133, Tryz.ntmps133
    go_wp2_with fail
    rw [hWx.out]
    refine (hcall.out W0).mono ?_
    rintro e w1 ⟨rfl, hb1⟩
    have HB1 := hid (HB.out.trans (hb1.mono HB.out.size))
    clear hb1
    go_wp2_with fail
    go_ret
    exact ⟨by rw [ht.out]; rfl, HB1.out⟩
  · simp only [List.length_nil] at hW
    have hWx := hid hW
    have ht : Hid (Ex.txt (.mk 2 n o []) = 114 :: digB n) := Ex.txt_reg n o []
    have hcall := hid (fun W => digits_any n n0 (by omega) W)
    obtain ⟨S1, hS1⟩ : ∃ S1, S1 = strL (digB n) := ⟨_, rfl⟩
    have hsz : S1.size ≤ 2 := by rw [hS1, strL_size]; exact (digB_len n).2
    have hfin : Hid (strL (Ex.txt (.mk 2 n o [])) = ⟨#[114]⟩ ++ S1) := by
      show _ = _
      rw [ht.out, hS1]
      exact (strL_app [114] _).symm
    rw [← hS1] at hcall
    clear hW hB hKB hin hk hx hS1
    go_enter Tryz.func133, Tryz.ntmps133
    go_wp2_with fail
    rw [hWx.out]
    refine (hcall.out W0).mono ?_
    rintro e w1 ⟨rfl, hb1⟩
    have HB1 := hid (HB.out.trans (hb1.mono HB.out.size))
    clear hb1
    go_wp2_with fail
    go_ret
    exact ⟨by rw [hfin.out]; rfl, HB1.out⟩
  · simp only [List.length_cons, List.length_nil, Nat.zero_add, Nat.reduceAdd] at hW hle c3
    have hWx := hid hW
    obtain ⟨b, off, u0, u1, u2, u3, v0, v1, v2, v3, rfl, hb, g0, g1, g2, g3, g4, g5, g6, g7, hxx, hyy⟩ := ExIn.pair hk
    have hbl : b < w.heap.size := hb
    rw [← hKB.2 _ _ hbl] at g0 g1 g2 g3 g4 g5 g6 g7
    have g8 : b < W0.heap.size := by omega
    have hX : Hid (∀ W, Kp W0 W → Calls Tryz.prog 133 #[.agg #[u0, u1, u2, u3]] W fun e w' => e = .returned (.string (strL x.txt)) ∧ Below W.heap.size W w') := fun W hK => ih x hfx [u0, u1, u2, u3] W (hK.ex (hKB.ex hxx))
    have hY : Hid (∀ W, Kp W0 W → Calls Tryz.prog 133 #[.agg #[v0, v1, v2, v3]] W fun e w' => e = .returned (.string (strL y.txt)) ∧ Below W.heap.size W w') := fun W hK => ih y hfy [v0, v1, v2, v3] W (hK.ex (hKB.ex hyy))
    have hS : Hid (∀ W, Calls Tryz.prog 62 #[.int .u8 o] W fun e w' => e = .returned (.string (strL (sgn o))) ∧ Below W.heap.size W w') := fun W => sign_any o W
    have ht : Hid (Ex.txt (.mk 3 0 o [x, y]) = [40] ++ x.txt ++ [32] ++ sgn o ++ [32] ++ y.txt ++ [41]) := Ex.txt_two 0 o x y
    have hxl : x.txt.length ≤ 9437178 := by
      have h1 := Ex.txt_len d x hfx
      have h2 : 2 ^ d ≤ 2 ^ 20 := Nat.pow_le_pow_right (by decide) (by omega)
      omega
    have hyl : y.txt.length ≤ 9437178 := by
      have h1 := Ex.txt_len d y hfy
      have h2 : 2 ^ d ≤ 2 ^ 20 := Nat.pow_le_pow_right (by decide) (by omega)
      omega
    have hsl := sgn_len o
    obtain ⟨t1, h1⟩ : ∃ t, t = [40] ++ x.txt := ⟨_, rfl⟩
    obtain ⟨t2, h2⟩ : ∃ t, t = t1 ++ [32] := ⟨_, rfl⟩
    obtain ⟨t3, h3⟩ : ∃ t, t = t2 ++ sgn o := ⟨_, rfl⟩
    obtain ⟨t4, h4⟩ : ∃ t, t = t3 ++ [32] := ⟨_, rfl⟩
    obtain ⟨t5, h5⟩ : ∃ t, t = t4 ++ y.txt := ⟨_, rfl⟩
    obtain ⟨t6, h6⟩ : ∃ t, t = t5 ++ [41] := ⟨_, rfl⟩
    have l1 : t1.length ≤ 9437200 := by rw [h1]; simp; omega
    have l2 : t2.length ≤ 9437210 := by rw [h2]; simp; omega
    have l3 : t3.length ≤ 9437220 := by rw [h3]; simp; omega
    have l4 : t4.length ≤ 9437230 := by rw [h4]; simp; omega
    have l5 : t5.length ≤ 19000000 := by rw [h5]; simp; omega
    have a1 := add_str (a := [40]) (b := x.txt) (by simp; omega) h1
    have a2 := add_str (a := t1) (b := [32]) (by simp; omega) h2
    have a3 := add_str (a := t2) (b := sgn o) (by omega) h3
    have a4 := add_str (a := t3) (b := [32]) (by simp; omega) h4
    have a5 := add_str (a := t4) (b := y.txt) (by omega) h5
    have a6 := add_str (a := t5) (b := [41]) (by simp; omega) h6
    have hfin : Hid (strL (Ex.txt (.mk 3 0 o [x, y])) = strL t6) := by
      show _ = _
      rw [ht.out, h6, h5, h4, h3, h2, h1]
    clear h1 h2 h3 h4 h5 h6 l1 l2 l3 l4 l5 hsl
    generalize hS1 : strL x.txt = S1 at *
    generalize hS2 : strL y.txt = S2 at *
    generalize hS3 : strL (sgn o) = S3 at *
    generalize strL t1 = T1 at *
    generalize strL t2 = T2 at *
    generalize strL t3 = T3 at *
    generalize strL t4 = T4 at *
    generalize strL t5 = T5 at *
    generalize strL t6 = T6 at *
    simp only [strL] at a1 a2 a4 a6
    clear hW hB hKB hin hk hx hS1 hS2 hS3 hxx hyy hxl hyl ht ih hfx hfy ho
    go_enter Tryz.func133, Tryz.ntmps133
    go_wp2_with fail
    rw [hWx.out]
    go_region_held3 (Kp W0)
      (first | exact Kp.start _ | assumption)
      (first
        | (go_at_call 133
           with_reducible refine (hX.out _ ?_).mono ?_
           (focus assumption)
           rintro e w1 ⟨rfl, hb1⟩
           have hk1 : Kp W0 w1 := Kp.next (by assumption) hb1
           clear hb1)
        | (go_at_call 133
           with_reducible refine (hY.out _ ?_).mono ?_
           (focus assumption)
           rintro e w2 ⟨rfl, hb2⟩
           have hk2 : Kp W0 w2 := Kp.next (by assumption) hb2
           clear hb2)
        | (go_at_call 62
           with_reducible refine (hS.out _).mono ?_
           rintro e w3 ⟨rfl, hb3⟩
           have hk3 : Kp W0 w3 := Kp.next (by assumption) hb3
           clear hb3)
        | fail)
    all_goals
      go_wp2_with fail
      go_ret
      first
        | exact ⟨by rw [hfin.out]; rfl, Kp.fin HB.out hk1⟩
        | exact ⟨by rw [hfin.out]; rfl, Kp.fin HB.out hk2⟩
        | exact ⟨by rw [hfin.out]; rfl, Kp.fin HB.out hk3⟩
end Go.Proofs.YtphlbbnmligadaaGreatDoor
