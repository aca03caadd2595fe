/- The program's Print. -/
import Derived.Test.YtphlbbnmligadaaGreatDoorPrZ
import Derived.Test.YtphlbbnmligadaaGreatDoorPrT
import Derived.Test.YtphlbbnmligadaaGreatDoorRgP
namespace Go.Proofs.YtphlbbnmligadaaGreatDoor
open Go.RowKit

theorem vsB_flat (l : List ByteArray) : vsB l = (l.map fun s => [32] ++ sB s).flatten := by
  have h : ∀ (l : List ByteArray) (acc : List UInt8), l.foldl (fun acc s => acc ++ ([32] ++ sB s)) acc = acc ++ (l.map fun s => [32] ++ sB s).flatten := by
    intro l
    induction l with
    | nil => intro acc; simp
    | cons x l ih => intro acc; rw [List.foldl_cons, ih]; simp
  exact (h l []).trans (by simp)
theorem join_vsB {l : List ByteArray} (h : 1 ≤ l.length) : [118, 97, 114, 115] ++ vsB l = [118, 97, 114, 115, 32] ++ Lib.join (l.map (·.data.toList)) [32] := by
  rcases l with _ | ⟨x, r⟩
  · simp at h
  · rw [vsB_flat, List.map_cons, List.map_cons, Lib.join_cons]
    unfold Lib.joinTail
    rw [List.map_map]
    simp only [List.flatten_cons]
    rfl

abbrev Kb (B : Nat) (W1 W : World) : Prop := ∀ b o, b < B → W.cell? ⟨b, o, none⟩ = W1.cell? ⟨b, o, none⟩

set_option maxRecDepth 100000 in
set_option maxHeartbeats 16000000 in
theorem pPrint_any (p : Pg) (cs : List Value) (w : World) (hin : PgIn w (In_ w) cs p) :
    Calls Tryz.prog 12 #[.agg cs.toArray] w fun e w' => e = .returned (prS p) ∧ Below w.heap.size w w' := by
  have hin0 := hin
  obtain ⟨va, cv, ta, ct, rfl, hvr, hts, -⟩ := hin
  generalize hW : w.alloc (.cells #[.slice va p.vars.length cv, .int .i64 p.dom, .slice ta p.ths.length ct] 27) = W0
  have hB : Below w.heap.size w W0 := by subst hW; exact (Below.refl _ _).alloc (Nat.le_refl _) _
  have z0 : w.heap.size < W0.heap.size := by subst hW; simp
  have c0 : W0.cell? ⟨w.heap.size, 0, none⟩ = some (.slice va p.vars.length cv) := by subst hW; go_simp
  have c1 : W0.cell? ⟨w.heap.size, 1, none⟩ = some (.int .i64 p.dom) := by subst hW; go_simp
  have c2 : W0.cell? ⟨w.heap.size, 2, none⟩ = some (.slice ta p.ths.length ct) := by subst hW; go_simp
  have HB := hid hB
  have HKB : Hid (Kp w W0) := Kp.of hB
  have hRt := hid (pRight_any p _ W0 (HKB.out.pg hin0))
  have Hvr := hid hvr
  have Hts := hid hts
  have hvl := hvr.le
  have hvm := hvr.mx
  have htl := hts.le
  have htm := hts.mx
  unfold maxLen at hvm htm
  have hWx := hid hW
  clear hW hB hin0 hvr hts
  cases hr : rightP p with
  | false =>
    have hfin : Hid (prS p = .tuple #[.string ⟨#[]⟩, .int .i64 1]) := by show _ = _; unfold prS; rw [hr]; rfl
    rw [hr] at hRt
    go_enter Tryz.func12, Tryz.ntmps12
    go_wp2_with fail
    rw [hWx.out]
    refine hRt.out.mono ?_
    rintro e w1 ⟨rfl, hb1⟩
    have HB1 := hid (HB.out.trans (hb1.mono HB.out.size))
    clear hb1
    go_wp2_with fail
    go_ret2
    exact ⟨by rw [hfin.out]; rfl, HB1.out⟩
  | true =>
    have hfin : Hid (prS p = .tuple #[.string (strL (prB p)), .int .i64 0]) := by show _ = _; unfold prS; rw [hr]; rfl
    have Hr := hid hr
    rw [hr] at hRt
    obtain ⟨hv1, hvl4, hv, hd2, hd16, -, htl4, hall⟩ := rightP_open hr
    have Hall := hid hall
    have hblk := (wst_all (vs := p.vars) hv hd16 20).2
    have hIt := hid (fun W => itoa_any p.dom (by omega) (by omega) W)
    have hdl := digB_len p.dom
    clear hr hall
    go_enter Tryz.func12, Tryz.ntmps12
    go_wp2_with fail
    rw [hWx.out]
    refine hRt.out.mono ?_
    rintro e w1 ⟨rfl, hb1⟩
    have hK1 := Kp.of hb1
    have s1 : w.heap.size < w1.heap.size := Nat.lt_of_lt_of_le z0 hb1.size
    have HB1 := hid (HB.out.trans (hb1.mono HB.out.size))
    have y0 := (hK1.2 _ 0 z0).trans c0
    generalize hV : w1.alloc (.cells #[.pointer none, .slice none 0 0, .slice va p.vars.length cv] 66) = W1
    have hBV : Below w1.heap.size w1 W1 := by subst hV; exact (Below.refl _ _).alloc (Nat.le_refl _) _
    have zV : w1.heap.size < W1.heap.size := by subst hV; simp
    have hWt : Wt W1 w1.heap.size w1.heap.size [] (.slice va p.vars.length cv) := ⟨Nat.le_refl _, .pointer none, .slice none 0 0, .inl rfl, by subst hV; exact heap_alloc_new w1 _, World.ownsRow_nil _ _ _ _, by simp [Value.ownBlock]⟩
    have hKV : Kp W0 W1 := hK1.next hBV
    have x0 : W1.cell? ⟨w.heap.size, 0, none⟩ = some (.slice va p.vars.length cv) := (hKV.2 _ _ z0).trans c0
    have x1 : W1.cell? ⟨w.heap.size, 1, none⟩ = some (.int .i64 p.dom) := (hKV.2 _ _ z0).trans c1
    have x2 : W1.cell? ⟨w.heap.size, 2, none⟩ = some (.slice ta p.ths.length ct) := (hKV.2 _ _ z0).trans c2
    have hwW : ∀ b o, b < w.heap.size → W1.cell? ⟨b, o, none⟩ = w.cell? ⟨b, o, none⟩ := fun b o hb => ((hKV.2 _ _ (by omega)).trans (HKB.out.2 _ _ hb))
    have HwW := hid hwW
    have hvr1 : VrIn W1 (LtB w1.heap.size) va p.vars.length cv p.vars := (Hvr.out.keep fun b o hb => hwW b o hb).widen fun b hb => by have h : b < w.heap.size := hb; show b < _; omega
    have hts1 : TsIn W1 (LtB w1.heap.size) ta p.ths.length ct p.ths := (Hts.out.keep fun b o hb => hwW b o hb).widen fun b hb => by have h : b < w.heap.size := hb; show b < _; omega
    obtain ⟨vb, vo, hva, hvb, -⟩ := hvr1.at_ 0 (by omega)
    subst hva
    have hvb' : vb < w1.heap.size := hvb
    have hJn : Hid (∀ W, BW W1 W → Calls Tryz.prog 26 #[.slice (some ⟨vb, vo, none⟩) p.vars.length cv, .string ⟨#[32]⟩] W fun e w' => e = .returned (.string (strL (Lib.join (p.vars.map (·.data.toList)) [32]))) ∧ Below W.heap.size W w') := fun W hb => by
      have hjl : (Lib.join (p.vars.map (·.data.toList)) [32]).length ≤ 140737488355328 := by
        have h1 := congrArg List.length (join_vsB hv1)
        have h2 := vsB_len hv p.vars.length (Nat.le_refl _)
        rw [List.take_length] at h2
        simp only [List.length_append, List.length_cons, List.length_nil] at h1
        omega
      refine strings_Join vb vo cv p.vars ⟨#[32]⟩ W (fun j x hx => ?_) (by have := Below.size hb; omega) (by omega) hvl hjl
      have hj : j < p.vars.length := by
        rcases Nat.lt_or_ge j p.vars.length with h | h
        · exact h
        · rw [List.getElem?_eq_none h] at hx; cases hx
      obtain ⟨b', o', e', hb', hc'⟩ := hvr1.at_ j hj
      simp only [Option.some.injEq, Addr.mk.injEq, and_true] at e'
      obtain ⟨rfl, rfl⟩ := e'
      rw [List.getElem?_eq_getElem hj] at hx
      injection hx with hx
      rw [← hx, ← hc']
      exact Below.cell (p := ⟨vb, vo + j, none⟩) hb (by show vb < _; omega)
    obtain ⟨lst, hlst⟩ : ∃ l : List ByteArray, l = [⟨#[118, 97, 114, 115, 32]⟩, strL (Lib.join (p.vars.map (·.data.toList)) [32]), ⟨#[59, 10, 100, 111, 109, 97, 105, 110, 32]⟩, strL (digB p.dom), ⟨#[59, 10]⟩] := ⟨_, rfl⟩
    have hcat : catB lst ++ tsB p.vars p.ths = prB p := by
      rw [hlst, prB_eq, join_vsB hv1]
      simp [catB, strL]
    have hcl : (catB lst).length ≤ 1000 := by
      have h2 := vsB_len hv p.vars.length (Nat.le_refl _)
      rw [List.take_length] at h2
      have h1 := congrArg List.length (join_vsB hv1)
      simp only [List.length_append, List.length_cons, List.length_nil] at h1
      rw [hlst]
      simp [catB, strL]
      omega
    have HWt : Hid (∀ W, BW W1 W → Wt W w1.heap.size w1.heap.size [] (.slice (some ⟨vb, vo, none⟩) p.vars.length cv)) := fun W hb => hWt.below hb
    have HBs : Hid (∀ W, BW W1 W → w1.heap.size ≤ W.heap.size) := fun W hb => Nat.le_trans (Nat.le_of_lt zV) (Below.size hb)
    have hput := hid (fun W (hb : BW W1 W) => put_lit W (lst.map Value.string).toArray 5 lst (HWt.out W hb) (HBs.out W hb) rfl (by rw [hlst]; rfl) (by omega) (by simp; omega))
    have hmp : (lst.map Value.string).toArray = #[.string ⟨#[118, 97, 114, 115, 32]⟩, .string (strL (Lib.join (p.vars.map (·.data.toList)) [32])), .string ⟨#[59, 10, 100, 111, 109, 97, 105, 110, 32]⟩, .string (strL (digB p.dom)), .string ⟨#[59, 10]⟩] := by rw [hlst]; rfl
    rw [hmp] at hput
    have HKb : Hid (∀ W, BW W1 W → Kb w1.heap.size W1 W) := fun W hb b o hlt => Below.cell (p := ⟨b, o, none⟩) hb (by show b < _; omega)
    have HKk : Hid (∀ W W', BW W1 W → Wk w1.heap.size w1.heap.size W W' → Kb w1.heap.size W1 W' ∧ Wk w1.heap.size w1.heap.size W1 W') := fun W W' hb hk => ⟨fun b o hlt => (hk.bl.cell (p := ⟨b, o, none⟩) hlt).trans (HKb.out W hb b o hlt), (Wk.of_below hb (Nat.le_of_lt zV)).trans hk⟩
    have hpT : Hid (∀ W L', Wt W w1.heap.size w1.heap.size L' (.slice (some ⟨vb, vo, none⟩) p.vars.length cv) → w1.heap.size ≤ W.heap.size → L'.length ≤ 99000000000 → Calls Tryz.prog 25 #[.pointer (some ⟨w1.heap.size, 0, none⟩), .slice (some ⟨W.heap.size, 0, none⟩) 1 1] (W.alloc (.cells #[.string ⟨#[116, 104, 114, 101, 97, 100, 32]⟩] 9)) fun e w' => e = .returned (.tuple #[]) ∧ Wt w' w1.heap.size w1.heap.size (L' ++ [116, 104, 114, 101, 97, 100, 32]) (.slice (some ⟨vb, vo, none⟩) p.vars.length cv) ∧ Wk w1.heap.size w1.heap.size W w') := fun W L' h1 h2 h3 => put_lit W _ 1 [⟨#[116, 104, 114, 101, 97, 100, 32]⟩] h1 h2 rfl rfl (by decide) (by show L'.length + 7 ≤ _; omega)
    have hpN : Hid (∀ W L', Wt W w1.heap.size w1.heap.size L' (.slice (some ⟨vb, vo, none⟩) p.vars.length cv) → w1.heap.size ≤ W.heap.size → L'.length ≤ 99000000000 → Calls Tryz.prog 25 #[.pointer (some ⟨w1.heap.size, 0, none⟩), .slice (some ⟨W.heap.size, 0, none⟩) 1 1] (W.alloc (.cells #[.string ⟨#[10]⟩] 9)) fun e w' => e = .returned (.tuple #[]) ∧ Wt w' w1.heap.size w1.heap.size (L' ++ [10]) (.slice (some ⟨vb, vo, none⟩) p.vars.length cv) ∧ Wk w1.heap.size w1.heap.size W w') := fun W L' h1 h2 h3 => put_lit W _ 1 [⟨#[10]⟩] h1 h2 rfl rfl (by decide) (by show L'.length + 1 ≤ _; omega)
    have Hcat := hid hcat
    have Hcl := hid hcl
    have Hvr1 := hid hvr1
    have Hts1 := hid hts1
    have hVx := hid hV
    have HFin : Hid (∀ W', Below w1.heap.size W1 W' → Below w.heap.size w W') := fun W' h => HB1.out.trans ((hBV.trans h).mono (by omega))
    clear hb1 hK1 hBV hV hWt hKV hvr1 hts1 hlst hcat hmp hwW hvb hdl HKB HB hWx hRt HwW Hvr Hts
    generalize strL (Lib.join (p.vars.map (·.data.toList)) [32]) = SJ at *
    generalize strL (digB p.dom) = SD at *
    go_upto_region 4 with fail
    rw [hVx.out]
    clear hVx c0 c1 c2 y0
    have hk0 := BW.start W1
    have hS0 := HKb.out _ hk0
    go_region_held3 (Kb w1.heap.size W1)
      (first | assumption | exact HKb.out _ (BW.alloc (by assumption) _))
      (first
        | (go_at_call 26
           with_reducible refine (hJn.out _ ?_).mono ?_
           (focus assumption)
           rintro e w2 ⟨rfl, hb2⟩
           have hk2 : BW W1 w2 := BW.next (by assumption) hb2
           have hS2 := HKb.out _ hk2
           clear hb2)
        | (go_at_call 27
           with_reducible refine (hIt.out _).mono ?_
           rintro e w3 ⟨rfl, hb3⟩
           have hk3 : BW W1 w3 := BW.next (by assumption) hb3
           have hS3 := HKb.out _ hk3
           clear hb3)
        | (go_at_call 25
           with_reducible refine (hput.out _ ?_).mono ?_
           (focus assumption)
           rintro e w9 ⟨rfl, hw9, hk9⟩
           have hQ9 := HKk.out _ _ (by assumption) hk9
           have hS9 := hQ9.1
           have HQ9 := hid hQ9.2
           have HW9 := hid hw9
           clear hk9 hw9 hQ9)
        | fail)
    all_goals
      have HW10 : Hid (Wt w9 w1.heap.size w1.heap.size (catB lst) (.slice (some ⟨vb, vo, none⟩) p.vars.length cv)) := by show Wt _ _ _ _ _; simpa using HW9.out
      have y2 := (hS9 _ 2 s1).trans x2
      have y3 : w.heap.size < w9.heap.size := by have := HQ9.out.bl.size; omega
      clear hput hJn hIt HW9 HKb HKk HWt hcl
      go_wp2_with fail
      clear hS9 y2 y3
      go_loopw [26] (fun i wr => ∃ q : Nat, q ≤ p.ths.length ∧ i = .int .i64 q ∧ Hid (Wt wr w1.heap.size w1.heap.size (catB lst ++ tsB p.vars (p.ths.take q)) (.slice (some ⟨vb, vo, none⟩) p.vars.length cv)) ∧ Hid (Wk w1.heap.size w1.heap.size W1 wr)) (fun i _ => p.ths.length - (intOf i).toNat)
      case atStart => exact ⟨0, Nat.zero_le _, rfl, by show Wt _ _ _ _ _; simpa [tsB] using HW10.out, HQ9⟩
      case round =>
        obtain ⟨q, hq, rfl, hWr, hK⟩ := hrel
        have g0 := hK.out.bl.size
        have g4 := hWr.out.lt
        by_cases hlt : q < p.ths.length
        · have q0 : (0 : Int) ≤ q := by omega
          have q1 : (q : Int) < p.ths.length := by omega
          obtain ⟨b, off, ar, kr, hta, hb, y0, hrow⟩ := Hts1.out.at_ q hlt
          subst hta
          have hbl : b < w1.heap.size := hb
          have s5 : b < wr.heap.size := by omega
          have e0 : wr.cell? ⟨b, off + q, none⟩ = some (.slice ar p.ths[q].length kr) := (hK.out.bl.cell (p := ⟨b, off + q, none⟩) hbl).trans y0
          obtain ⟨o1, o2⟩ := Hall.out q hlt
          have l0 := tsB_len Hr.out q (by omega)
          have l1 := blkB_len hv o1 o2
          have e1 := tsB_take p.vars p.ths q hlt
          have hcall : Hid (∀ W L', Wt W w1.heap.size w1.heap.size L' (.slice (some ⟨vb, vo, none⟩) p.vars.length cv) → Wk w1.heap.size w1.heap.size W1 W → L'.length ≤ 80000000000 → Calls Tryz.prog 28 #[.pointer (some ⟨w1.heap.size, 0, none⟩), .slice ar p.ths[q].length kr] W (PutPost w1.heap.size w1.heap.size (L' ++ blkB p.vars p.ths[q]) (.slice (some ⟨vb, vo, none⟩) p.vars.length cv) W)) := fun W L' h1 h2 h3 =>
            hblk _ o1 o2 w1.heap.size w1.heap.size L' _ cv ar kr W h1 (Nat.le_trans (Nat.le_of_lt zV) h2.bl.size) (Hvr1.out.keep fun b o hb => h2.bl.cell (p := ⟨b, o, none⟩) hb) (hrow.keep fun b o hb => h2.bl.cell (p := ⟨b, o, none⟩) hb) (by omega)
          have hrl := hrow.le
          have l2 : Hid ((catB lst ++ tsB p.vars (p.ths.take q)).length ≤ 99000000000) := by have := Hcl.out; show _ ≤ _; rw [List.length_append]; omega
          have l3 : Hid ((catB lst ++ tsB p.vars (p.ths.take q) ++ [116, 104, 114, 101, 97, 100, 32]).length ≤ 80000000000) := by have := Hcl.out; show _ ≤ _; simp only [List.length_append, List.length_cons, List.length_nil]; omega
          have l4 : Hid ((catB lst ++ tsB p.vars (p.ths.take q) ++ [116, 104, 114, 101, 97, 100, 32] ++ blkB p.vars p.ths[q]).length ≤ 99000000000) := by have := Hcl.out; show _ ≤ _; simp only [List.length_append, List.length_cons, List.length_nil]; omega
          have hst : Hid (catB lst ++ tsB p.vars (p.ths.take q) ++ [116, 104, 114, 101, 97, 100, 32] ++ blkB p.vars p.ths[q] ++ [10] = catB lst ++ tsB p.vars (p.ths.take (q + 1))) := by show _ = _; rw [e1]; simp only [List.append_assoc]
          have HZ : Hid (∀ W, Wk w1.heap.size w1.heap.size W1 W → w1.heap.size ≤ W.heap.size) := fun W h => Nat.le_trans (Nat.le_of_lt zV) h.bl.size
          clear y0 hrow e1 l0 l1 o1 o2 hb
          generalize p.ths[q].length = tl at *
          generalize blkB p.vars p.ths[q] = BX at *
          go_wp2_with (first
            | (go_at_call 25
               with_reducible refine (hpT.out _ _ hWr.out (HZ.out _ hK.out) l2.out).mono ?_
               rintro e w11 ⟨rfl, hw11, hk11⟩
               have HW11 := hid hw11
               have HQ11 := hid (hK.out.trans hk11)
               clear hw11 hk11)
            | (go_at_call 28
               with_reducible refine (hcall.out _ _ HW11.out HQ11.out l3.out).mono ?_
               rintro e w12 ⟨rfl, hw12, hk12⟩
               have HW12 := hid hw12
               have HQ12 := hid (HQ11.out.trans hk12)
               clear hw12 hk12)
            | (go_at_call 25
               with_reducible refine (hpN.out _ _ HW12.out (HZ.out _ HQ12.out) l4.out).mono ?_
               rintro e w13 ⟨rfl, hw13, hk13⟩
               have HW13 := hid hw13
               have HQ13 := hid (HQ12.out.trans hk13)
               clear hw13 hk13)
            | fail)
          go_roundw
          case rel => exact ⟨q + 1, by omega, by simp, by show Wt _ _ _ _ _; rw [← hst.out]; exact HW13.out, HQ13⟩
          case measure => simp [intOf]; omega
        · obtain rfl : q = p.ths.length := by omega
          rw [List.take_length, Hcat.out] at hWr
          have hne : prB p ≠ [] := by rw [prB_eq]; simp
          have hstr := hid (bstring_any w1.heap.size w1.heap.size (prB p) _ wr hWr.out hne)
          have hf2 : Hid (strL (prB p) = ⟨(prB p).toArray⟩) := rfl
          clear hne
          generalize prB p = PB at *
          go_wp2_with (first
            | (go_at_call 29
               with_reducible refine hstr.out.mono ?_
               rintro e w14 ⟨rfl, hb14⟩
               have HF := hid (HFin.out _ (hK.out.bl.trans hb14))
               clear hb14)
            | fail)
          go_ret2
          exact ⟨by rw [hfin.out, hf2.out]; rfl, HF.out⟩
end Go.Proofs.YtphlbbnmligadaaGreatDoor
