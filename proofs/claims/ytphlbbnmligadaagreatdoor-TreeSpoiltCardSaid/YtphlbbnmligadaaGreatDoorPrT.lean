/- The document's Print. -/
import Derived.Test.YtphlbbnmligadaaGreatDoorPrS
import Derived.Test.YtphlbbnmligadaaGreatDoorBunW
namespace Go.Proofs.YtphlbbnmligadaaGreatDoor
open Go.RowKit

theorem rst_all {vs : List ByteArray} (hv : vs.all nameB = true) {dom : Int} (hdom : dom ≤ 16) : ∀ n, RStC vs dom n ∧ RBlC vs dom n
  | 0 => by
    have h0 : RStC vs dom 0 := fun x h => by simp [okS] at h
    exact ⟨h0, rblock_step vs hv dom 0 h0⟩
  | n + 1 => by
    have h1 := rstmt_step vs hv dom hdom n (rst_all hv hdom n).2
    exact ⟨h1, rblock_step vs hv dom (n + 1) h1⟩

/-- A program that may be, opened. -/
theorem rightP_open {p : Pg} (h : rightP p = true) : 1 ≤ p.vars.length ∧ p.vars.length ≤ 4 ∧ p.vars.all nameB = true ∧ 2 ≤ p.dom ∧ p.dom ≤ 16 ∧ 1 ≤ p.ths.length ∧ p.ths.length ≤ 4 ∧ ∀ i (hi : i < p.ths.length), okL p.vars.length p.dom 20 p.ths[i] = true ∧ cntL p.ths[i] ≤ 200 := by
  rw [rightP_eq] at h
  simp only [Bool.and_eq_true, decide_eq_true_eq] at h
  obtain ⟨⟨⟨⟨h1, h2⟩, h3⟩, -⟩, ⟨⟨⟨h4, h5⟩, h6⟩, h7⟩, h8⟩ := h
  unfold sumT okT at h8
  simp only [Bool.and_eq_true, decide_eq_true_eq, List.all_eq_true] at h8
  refine ⟨h1, h2, h3, h4, h5, h6, h7, fun i hi => ⟨h8.1 _ (List.getElem_mem hi), ?_⟩⟩
  have e1 := cntT_take p.ths i hi
  have e2 := cntT_le p.ths (i + 1)
  omega

def vsB (vs : List ByteArray) : List UInt8 := vs.foldl (fun acc s => acc ++ ([32] ++ sB s)) []
theorem vsB_take (vs : List ByteArray) (k : Nat) (hk : k < vs.length) : vsB (vs.take (k + 1)) = vsB (vs.take k) ++ ([32] ++ sB vs[k]) := by
  unfold vsB
  rw [List.take_succ_eq_append_getElem hk, List.foldl_append]
  rfl
def tsB (vs : List ByteArray) (t : List (List St)) : List UInt8 := t.foldl (fun acc l => acc ++ ([116, 104, 114, 101, 97, 100, 32] ++ blkB vs l ++ [10])) []
theorem tsB_take (vs : List ByteArray) (t : List (List St)) (k : Nat) (hk : k < t.length) : tsB vs (t.take (k + 1)) = tsB vs (t.take k) ++ ([116, 104, 114, 101, 97, 100, 32] ++ blkB vs t[k] ++ [10]) := by
  unfold tsB
  rw [List.take_succ_eq_append_getElem hk, List.foldl_append]
  rfl
theorem prB_eq (p : Pg) : prB p = [118, 97, 114, 115] ++ vsB p.vars ++ ([59, 10, 100, 111, 109, 97, 105, 110, 32] ++ digB p.dom ++ [59, 10]) ++ tsB p.vars p.ths := rfl
theorem name_len {vs : List ByteArray} (h : vs.all nameB = true) (k : Nat) (hk : k < vs.length) : (sB vs[k]).length ≤ 12 := by
  have := nmB_len h k
  unfold nmB at this
  rw [Int.toNat_natCast, List.getElem?_eq_getElem hk] at this
  exact this
theorem vsB_len {vs : List ByteArray} (h : vs.all nameB = true) : ∀ k, k ≤ vs.length → (vsB (vs.take k)).length ≤ 13 * k
  | 0, _ => by simp [vsB]
  | k + 1, hk => by
    rw [vsB_take vs k (by omega)]
    have := vsB_len h k (by omega)
    have := name_len h k (by omega)
    simp only [List.length_append, List.length_cons, List.length_nil]
    omega
theorem tsB_len {p : Pg} (h : rightP p = true) : ∀ k, k ≤ p.ths.length → (tsB p.vars (p.ths.take k)).length ≤ 4000002020 * k
  | 0, _ => by simp [tsB]
  | k + 1, hk => by
    obtain ⟨-, -, hv, -, -, -, -, hall⟩ := rightP_open h
    rw [tsB_take _ _ k (by omega)]
    have := tsB_len h k (by omega)
    obtain ⟨h1, h2⟩ := hall k (by omega)
    have := blkB_len hv h1 h2
    simp only [List.length_append, List.length_cons, List.length_nil]
    omega

/-- What Print tells. -/
def prS (p : Pg) : Value := if rightP p then .tuple #[.string (strL (prB p)), .int .i64 0] else .tuple #[.string ⟨#[]⟩, .int .i64 1]

set_option maxRecDepth 100000 in
set_option maxHeartbeats 8000000 in
theorem rPrint_any (p : Pg) (cs : List Value) (w : World) (hin : PgIn w (In_ w) cs p) :
    Calls Tryz.prog 37 #[.agg cs.toArray] w fun e w' => e = .returned (prS p) ∧ Below w.heap.size w w' := by
  have hin0 := hin
  obtain ⟨va, cv, ta, ct, rfl, hvr, hts, -⟩ := hin
  generalize hW : w.alloc (.cells #[.slice va p.vars.length cv, .int .i64 p.dom, .slice ta p.ths.length ct] 27) = W0
  have hB : Below w.heap.size w W0 := by subst hW; exact (Below.refl _ _).alloc (Nat.le_refl _) _
  have z0 : w.heap.size < W0.heap.size := by subst hW; simp
  have c0 : W0.cell? ⟨w.heap.size, 0, none⟩ = some (.slice va p.vars.length cv) := by subst hW; go_simp
  have c1 : W0.cell? ⟨w.heap.size, 1, none⟩ = some (.int .i64 p.dom) := by subst hW; go_simp
  have c2 : W0.cell? ⟨w.heap.size, 2, none⟩ = some (.slice ta p.ths.length ct) := by subst hW; go_simp
  have HB := hid hB
  have HKB : Hid (Kp w W0) := Kp.of hB
  have hRt := hid (rRight_any p _ W0 (HKB.out.pg hin0))
  have Hvr := hid (HKB.out.vr hvr)
  have Hts := hid (HKB.out.ts hts)
  have hvl := hvr.le
  have hvm := hvr.mx
  have htl := hts.le
  have htm := hts.mx
  unfold maxLen at hvm htm
  have hWx := hid hW
  clear hW hB hin0 hvr hts
  cases hr : rightP p with
  | false =>
    have hfin : Hid (prS p = .tuple #[.string ⟨#[]⟩, .int .i64 1]) := by show _ = _; unfold prS; rw [hr]; rfl
    rw [hr] at hRt
    go_enter Tryz.func37, Tryz.ntmps37
    go_wp2_with fail
    rw [hWx.out]
    refine hRt.out.mono ?_
    rintro e w1 ⟨rfl, hb1⟩
    have HB1 := hid (HB.out.trans (hb1.mono HB.out.size))
    clear hb1
    go_wp2_with fail
    go_ret2
    exact ⟨by rw [hfin.out]; rfl, HB1.out⟩
  | true =>
    have hfin : Hid (prS p = .tuple #[.string (strL (prB p)), .int .i64 0]) := by show _ = _; unfold prS; rw [hr]; rfl
    have Hr := hid hr
    rw [hr] at hRt
    obtain ⟨-, hvl4, hv, hd2, hd16, -, htl4, hall⟩ := rightP_open hr
    have Hall := hid hall
    have hblk := (rst_all (vs := p.vars) hv hd16 20).2
    have hDg := hid (fun W => digits_any p.dom (by omega) (by omega) W)
    have hdl := digB_len p.dom
    clear hr hall
    go_enter Tryz.func37, Tryz.ntmps37
    go_wp2_with fail
    rw [hWx.out]
    refine hRt.out.mono ?_
    rintro e w1 ⟨rfl, hb1⟩
    have hK1 := Kp.of hb1
    have s1 : w.heap.size < w1.heap.size := Nat.lt_of_lt_of_le z0 hb1.size
    clear hb1
    go_wp2_with fail
    go_loopw [4, 5] (fun s i wr => ∃ (q : Nat) (S : ByteArray), q ≤ p.vars.length ∧ i = .int .i64 q ∧ s = .string S ∧ Hid (S = strL ([118, 97, 114, 115] ++ vsB (p.vars.take q))) ∧ wr = w1) (fun _ i _ => p.vars.length - (intOf i).toNat)
    case atStart => exact ⟨0, _, Nat.zero_le _, rfl, rfl, rfl, rfl⟩
    case round =>
      obtain ⟨q, S, hq, rfl, rfl, hS, hw⟩ := hrel
      subst hw
      by_cases hlt : q < p.vars.length
      · have q0 : (0 : Int) ≤ q := by omega
        have q1 : (q : Int) < p.vars.length := by omega
        obtain ⟨b, off, rfl, hb, y0⟩ := Hvr.out.at_ q hlt
        have hbl : b < W0.heap.size := hb
        have s2 : b < wr.heap.size := by have := hK1.1.size; omega
        rw [← strL_data p.vars[q]] at y0
        have l0 := vsB_len hv q (by omega)
        have l1 := name_len hv q hlt
        have e1 := vsB_take p.vars q hlt
        unfold sB at l1 e1
        generalize p.vars[q].data.toList = NM at *
        obtain ⟨t1, h1⟩ : ∃ z, z = ([118, 97, 114, 115] ++ vsB (p.vars.take q)) ++ [32] := ⟨_, rfl⟩
        obtain ⟨t2, h2⟩ : ∃ z, z = t1 ++ NM := ⟨_, rfl⟩
        have l2 : t1.length ≤ 1000 := by rw [h1]; simp; omega
        have a1 := add_str (a := [118, 97, 114, 115] ++ vsB (p.vars.take q)) (b := [32]) (by simp; omega) h1
        have a2 := add_str (a := t1) (b := NM) (by omega) h2
        obtain ⟨T2, hT2⟩ : ∃ T, T = strL t2 := ⟨_, rfl⟩
        have hst : Hid (T2 = strL ([118, 97, 114, 115] ++ vsB (p.vars.take (q + 1)))) := by
          show _ = _
          rw [hT2, h2, h1, e1]
          simp
        rw [← hS.out] at a1
        rw [← hT2] at a2
        clear hT2 h1 h2 hS e1 l0 l1 l2
        generalize strL t1 = T1 at *
        generalize strL NM = SN at *
        simp only [strL] at a1
        go_wp2_with fail
        go_roundw
        case rel => exact ⟨q + 1, T2, by omega, by simp, rfl, hst.out, by trivial⟩
        case measure => simp [intOf]; omega
      · obtain rfl : q = p.vars.length := by omega
        rw [List.take_length] at hS
        have l0 := vsB_len hv p.vars.length (Nat.le_refl _)
        rw [List.take_length] at l0
        obtain ⟨t1, h1⟩ : ∃ z, z = ([118, 97, 114, 115] ++ vsB p.vars) ++ [59, 10, 100, 111, 109, 97, 105, 110, 32] := ⟨_, rfl⟩
        obtain ⟨t2, h2⟩ : ∃ z, z = t1 ++ digB p.dom := ⟨_, rfl⟩
        obtain ⟨t3, h3⟩ : ∃ z, z = t2 ++ [59, 10] := ⟨_, rfl⟩
        have l1 : t1.length ≤ 1000 := by rw [h1]; simp; omega
        have l2 : t2.length ≤ 2000 := by rw [h2]; simp; omega
        have l3 : t3.length ≤ 3000 := by rw [h3]; simp; omega
        have a1 := add_str (a := [118, 97, 114, 115] ++ vsB p.vars) (b := [59, 10, 100, 111, 109, 97, 105, 110, 32]) (by simp; omega) h1
        have a2 := add_str (a := t1) (b := digB p.dom) (by omega) h2
        have a3 := add_str (a := t2) (b := [59, 10]) (by simp; omega) h3
        have e3 : Hid (t3 ++ tsB p.vars p.ths = prB p) := by
          show _ = _
          rw [h3, h2, h1, prB_eq]
          simp
        rw [← hS.out] at a1
        have Hl3 := hid l3
        clear hS l0 h1 h2 h3 l1 l2 l3
        generalize strL t1 = T1 at *
        generalize strL t2 = T2 at *
        obtain ⟨T3, hT3⟩ : ∃ T, T = strL t3 := ⟨_, rfl⟩
        rw [← hT3] at a3
        have HT3 := hid hT3
        clear hT3
        generalize strL (digB p.dom) = SD at *
        simp only [strL] at a1 a3
        go_wp2_with fail
        refine (hDg.out _).mono ?_
        rintro e w2 ⟨rfl, hb2⟩
        have hK2 := hK1.next hb2
        have s3 : w.heap.size < w2.heap.size := Nat.lt_of_lt_of_le s1 hb2.size
        have HK2 := hid hK2
        clear hb2 hK2 hK1
        have L3 := Hl3.out
        clear s1 s3 Hl3 hDg hdl hvl4 hlt
        go_wp2_with fail
        go_loopw [4, 6] (fun s i wr => ∃ (q : Nat) (S : ByteArray), q ≤ p.ths.length ∧ i = .int .i64 q ∧ s = .string S ∧ Hid (S = strL (t3 ++ tsB p.vars (p.ths.take q))) ∧ Kp W0 wr) (fun _ i _ => p.ths.length - (intOf i).toNat)
        case atStart => exact ⟨0, _, Nat.zero_le _, rfl, rfl, by show _ = _; rw [HT3.out]; simp [tsB], HK2.out⟩
        case round =>
          obtain ⟨q, S, hq, rfl, rfl, hS, hK⟩ := hrel
          have g0 := hK.1.size
          have s4 : w.heap.size < wr.heap.size := by omega
          by_cases hlt : q < p.ths.length
          · have q0 : (0 : Int) ≤ q := by omega
            have q1 : (q : Int) < p.ths.length := by omega
            obtain ⟨b, off, ar, kr, rfl, hb, y0, hrow⟩ := Hts.out.at_ q hlt
            have hbl : b < W0.heap.size := hb
            have s5 : b < wr.heap.size := by omega
            obtain ⟨o1, o2⟩ := Hall.out q hlt
            have l0 := tsB_len Hr.out q (by omega)
            have l1 := blkB_len hv o1 o2
            have e1 := tsB_take p.vars p.ths q hlt
            have hcall : Hid (∀ W, Kp W0 W → Calls Tryz.prog 64 #[.slice ar p.ths[q].length kr, .slice va p.vars.length cv] W fun e w' => e = .returned (.string (strL (blkB p.vars p.ths[q]))) ∧ Below W.heap.size W w') := fun W hW => hblk _ o1 o2 va cv ar kr W (hW.vr Hvr.out) (hW.strow hrow)
            have hrl := hrow.le
            obtain ⟨t4, h4⟩ : ∃ z, z = (t3 ++ tsB p.vars (p.ths.take q)) ++ [116, 104, 114, 101, 97, 100, 32] := ⟨_, rfl⟩
            obtain ⟨t5, h5⟩ : ∃ z, z = t4 ++ blkB p.vars p.ths[q] := ⟨_, rfl⟩
            obtain ⟨t6, h6⟩ : ∃ z, z = t5 ++ [10] := ⟨_, rfl⟩
            have l4 : t4.length ≤ 20000000000 := by rw [h4]; simp; omega
            have l5 : t5.length ≤ 40000000000 := by rw [h5]; simp; omega
            have a4 := add_str (a := t3 ++ tsB p.vars (p.ths.take q)) (b := [116, 104, 114, 101, 97, 100, 32]) (by simp; omega) h4
            have a5 := add_str (a := t4) (b := blkB p.vars p.ths[q]) (by omega) h5
            have a6 := add_str (a := t5) (b := [10]) (by simp; omega) h6
            obtain ⟨T6, hT6⟩ : ∃ T, T = strL t6 := ⟨_, rfl⟩
            have hst : Hid (T6 = strL (t3 ++ tsB p.vars (p.ths.take (q + 1)))) := by
              show _ = _
              rw [hT6, h6, h5, h4, e1]
              simp
            rw [← hS.out] at a4
            rw [← hT6] at a6
            clear hT6 h4 h5 h6 hS e1 l0 l1 l4 l5 o1 o2 hrow
            generalize strL t4 = T4 at *
            generalize strL t5 = T5 at *
            generalize strL (blkB p.vars p.ths[q]) = SB at *
            generalize p.ths[q].length = tl at *
            simp only [strL] at a4 a6
            go_wp2_with fail
            go_region_held3 (Kp W0)
              (first | exact Kp.drew hK | assumption)
              (first
                | (go_at_call 64
                   with_reducible refine (hcall.out _ ?_).mono ?_
                   (focus assumption)
                   rintro e w3 ⟨rfl, hb3⟩
                   have hk3 : Kp W0 w3 := Kp.next (by assumption) hb3
                   clear hb3)
                | fail)
            all_goals
              have HK3 := hid hk3
              go_wp2_with fail
              go_roundw
              case rel => exact ⟨q + 1, T6, by omega, by simp, rfl, hst.out, HK3.out⟩
              case measure => simp [intOf]; omega
          · obtain rfl : q = p.ths.length := by omega
            rw [List.take_length] at hS
            have HK := hid hK
            go_wp2_with fail
            go_ret2
            exact ⟨by rw [hfin.out, ← e3.out, ← hS.out]; rfl, Kp.fin HB.out HK.out⟩
end Go.Proofs.YtphlbbnmligadaaGreatDoor
