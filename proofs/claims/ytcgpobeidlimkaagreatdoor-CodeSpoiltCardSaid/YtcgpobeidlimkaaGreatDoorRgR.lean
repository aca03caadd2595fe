/- What programs may be: the document's word. -/
import Derived.Test.YtcgpobeidlimkaaGreatDoorBunW
import Derived.Deep.RegionHeld3
import Derived.Deep.CutRange
import Derived.Deep.CutBlock
import Derived.BigQuiet
import Derived.Deep.QuietTactic
namespace Go.Proofs.YtcgpobeidlimkaaGreatDoor
open Go.RowKit

theorem take_all_snoc {α : Type} (f : α → Bool) (t : List α) (k : Nat) (hk : k < t.length) (h : (t.take k).all f = true) : (t.take (k + 1)).all f = f t[k] := by
  rw [List.take_succ_eq_append_getElem hk, List.all_append, h]
  simp
theorem take_all_false {α : Type} (f : α → Bool) (t : List α) (k : Nat) (hk : k < t.length) (h : f t[k] = false) : t.all f = false := by
  rw [List.all_eq_false]
  exact ⟨t[k], List.getElem_mem hk, by simp [h]⟩
theorem nodup_take_succ {α : Type} {t : List α} {k : Nat} (hk : k < t.length) (h : (t.take k).Nodup) (hn : ∀ q (hq : q < t.length), q < k → t[q] ≠ t[k]) : (t.take (k + 1)).Nodup := by
  rw [List.take_succ_eq_append_getElem hk, List.nodup_append]
  refine ⟨h, by simp, fun a ha b hb => ?_⟩
  obtain ⟨q, hq, rfl⟩ := List.getElem_of_mem ha
  simp only [List.mem_cons, List.not_mem_nil, or_false] at hb
  subst hb
  have hq2 : q < k ∧ q < t.length := by simp at hq; omega
  rw [List.getElem_take]
  exact hn q hq2.2 hq2.1
theorem nodup_not {α : Type} {t : List α} {q k : Nat} (hk : k < t.length) (hq : q < t.length) (hlt : q < k) (h : t[q] = t[k]) : ¬ t.Nodup := fun hn => by
  have := List.pairwise_iff_getElem.1 hn q k hq hk hlt
  exact this h
theorem rightP_eq (p : Pg) : rightP p = (decide (1 ≤ p.vars.length) && decide (p.vars.length ≤ 4) && p.vars.all nameB && decide (p.vars.Nodup) && (decide (2 ≤ p.dom) && decide (p.dom ≤ 16) && decide (1 ≤ p.ths.length) && decide (p.ths.length ≤ 4) && sumT p.vars.length p.dom p.ths)) := by
  unfold rightP
  simp only [Bool.and_assoc]

set_option maxRecDepth 100000 in
set_option maxHeartbeats 8000000 in
theorem rRight_any (p : Pg) (cs : List Value) (w : World) (hin : PgIn w (In_ w) cs p) :
    Calls Tryz.prog 19 #[.agg cs.toArray] w fun e w' => e = .returned (.bool (rightP p)) ∧ Below w.heap.size w w' := by
  obtain ⟨va, cv, ta, ct, rfl, hv, ht, hwf⟩ := hin
  have hres := hid (rightP_eq p)
  obtain ⟨vars, dom, ths⟩ := p
  simp only at hv ht hwf hres
  have hvc := hv.le
  have hvm := hv.mx
  have htc := ht.le
  have htm := ht.mx
  unfold maxLen at hvm htm
  have hB : Below w.heap.size w (w.alloc (.cells #[.slice va vars.length cv, .int .i64 dom, .slice ta ths.length ct] 25)) := (Below.refl _ _).alloc (Nat.le_refl _) _
  have Hv := hid ((Kp.of hB).vr hv)
  have Ht := hid ((Kp.of hB).ts ht)
  have HB := hid hB
  clear hv ht hB
  go_enter Tryz.func19, Tryz.ntmps19
  by_cases l1 : vars.length < 1
  · have hf : Hid (rightP ⟨vars, dom, ths⟩ = false) := by show _ = _; rw [hres.out, decide_eq_false (show ¬ 1 ≤ vars.length by omega)]; rfl
    go_wp2_with fail
    go_ret
    exact ⟨ret_bool (by rw [hf.out]), HB.out⟩
  by_cases l4 : 4 < vars.length
  · have hf : Hid (rightP ⟨vars, dom, ths⟩ = false) := by show _ = _; rw [hres.out, decide_eq_false (show ¬ vars.length ≤ 4 by omega)]; simp
    go_wp2_with fail
    go_ret
    exact ⟨ret_bool (by rw [hf.out]), HB.out⟩
  by_cases d2 : dom < 2
  · have hf : Hid (rightP ⟨vars, dom, ths⟩ = false) := by show _ = _; rw [hres.out, decide_eq_false (show ¬ 2 ≤ dom by omega)]; simp
    go_wp2_with fail
    go_ret
    exact ⟨ret_bool (by rw [hf.out]), HB.out⟩
  by_cases d16 : 16 < dom
  · have hf : Hid (rightP ⟨vars, dom, ths⟩ = false) := by show _ = _; rw [hres.out, decide_eq_false (show ¬ dom ≤ 16 by omega)]; simp
    go_wp2_with fail
    go_ret
    exact ⟨ret_bool (by rw [hf.out]), HB.out⟩
  by_cases t1 : ths.length < 1
  · have hf : Hid (rightP ⟨vars, dom, ths⟩ = false) := by show _ = _; rw [hres.out, decide_eq_false (show ¬ 1 ≤ ths.length by omega)]; simp
    go_wp2_with fail
    go_ret
    exact ⟨ret_bool (by rw [hf.out]), HB.out⟩
  by_cases t4 : 4 < ths.length
  · have hf : Hid (rightP ⟨vars, dom, ths⟩ = false) := by show _ = _; rw [hres.out, decide_eq_false (show ¬ ths.length ≤ 4 by omega)]; simp
    go_wp2_with fail
    go_ret
    exact ⟨ret_bool (by rw [hf.out]), HB.out⟩
  have hres2 : Hid (rightP ⟨vars, dom, ths⟩ = (vars.all nameB && decide vars.Nodup && sumT vars.length dom ths)) := by
    show _ = _
    rw [hres.out, decide_eq_true (show 1 ≤ vars.length by omega), decide_eq_true (show vars.length ≤ 4 by omega), decide_eq_true (show 2 ≤ dom by omega), decide_eq_true (show dom ≤ 16 by omega), decide_eq_true (show 1 ≤ ths.length by omega), decide_eq_true (show ths.length ≤ 4 by omega)]
    rfl
  clear hres
  go_wp2_with fail
  have hv4 : vars.length ≤ 4 := by omega
  have ht4 : ths.length ≤ 4 := by omega
  clear l1 l4 d2 d16 t1 t4
  generalize hW : World.alloc w _ = W0 at *
  have z0 : w.heap.size < W0.heap.size := by subst hW; simp
  have c0 : W0.cell? ⟨w.heap.size, 0, none⟩ = some (.slice va vars.length cv) := by subst hW; go_simp
  have c1 : W0.cell? ⟨w.heap.size, 1, none⟩ = some (.int .i64 dom) := by subst hW; go_simp
  have c2 : W0.cell? ⟨w.heap.size, 2, none⟩ = some (.slice ta ths.length ct) := by subst hW; go_simp
  clear hW
  go_loopw [3] (fun i wr => ∃ k : Nat, k ≤ vars.length ∧ i = .int .i64 k ∧ Hid ((vars.take k).all nameB = true ∧ (vars.take k).Nodup) ∧ Kp W0 wr) (fun i _ => vars.length - (intOf i).toNat)
  case atStart => exact ⟨0, Nat.zero_le _, rfl, ⟨rfl, by simp⟩, Kp.refl _⟩
  case round =>
    obtain ⟨k, hk, rfl, hI, hK⟩ := hrel
    by_cases hlt : k < vars.length
    · obtain ⟨bb, off, rfl, hbb, e0⟩ := Hv.out.at_ k hlt
      have hbl := hbb.lt
      have k0 : (0 : Int) ≤ k := by omega
      have k1 : (k : Int) < vars.length := by omega
      have g0 := hK.1.size
      have g1 : w.heap.size < wr.heap.size := by omega
      have g3 : bb < wr.heap.size := by omega
      have hbad : Hid (nameB vars[k] = false → rightP ⟨vars, dom, ths⟩ = false) := fun h => by rw [hres2.out, take_all_false nameB vars k hlt h]; rfl
      have hdup : Hid (∀ q (hq : q < vars.length), q < k → vars[q] = vars[k] → rightP ⟨vars, dom, ths⟩ = false) := fun q hq hqk h => by
        rw [hres2.out, decide_eq_false (nodup_not hlt hq hqk h)]; simp
      have hall : Hid (nameB vars[k] = true → (vars.take (k + 1)).all nameB = true) := fun h => by rw [take_all_snoc nameB vars k hlt hI.out.1, h]
      have hnod : Hid ((∀ q (hq : q < vars.length), q < k → vars[q] ≠ vars[k]) → (vars.take (k + 1)).Nodup) := fun h => nodup_take_succ hlt hI.out.2 h
      clear hI
      obtain ⟨s, hs⟩ : ∃ s, s = vars[k] := ⟨_, rfl⟩
      rw [← hs] at e0 hbad hall
      have Hs := hid hs
      clear hs
      have hcall := hid (fun W => name_ref s W)
      cases hn : nameB s
      · have hf := hid (hbad.out hn)
        rw [hn] at hcall
        clear hn hall
        go_wp2_with (first
          | (go_at_call 35
             with_reducible refine (hcall.out _).mono ?_
             rintro e w1 ⟨rfl, hb1⟩)
          | fail)
        go_ret
        exact ⟨ret_bool (by rw [hf.out]), Kp.fin HB.out (hK.next hb1)⟩
      · have hall2 := hid (hall.out hn)
        rw [hn] at hcall
        clear hn hall hbad
        go_wp2_with (first
          | (go_at_call 35
             with_reducible refine (hcall.out _).mono ?_
             rintro e w1 ⟨rfl, hb1⟩
             have hK1 := hK.next hb1
             clear hb1 hK g0 g1 g3)
          | fail)
        go_loopw [4] (fun j wr => ∃ q : Nat, q ≤ k ∧ j = .int .i64 q ∧ Hid (∀ p (hp : p < vars.length), p < q → vars[p] ≠ s) ∧ Kp W0 wr) (fun j _ => k - (intOf j).toNat)
        case atStart => exact ⟨0, Nat.zero_le _, rfl, fun p _ h => absurd h (by omega), hK1⟩
        case round =>
          clear hK1
          obtain ⟨q, hq, rfl, hJ, hK⟩ := hrel
          by_cases hlt2 : q < k
          · have hqv : q < vars.length := by omega
            obtain ⟨b2, off2, e, hb2, f0⟩ := Hv.out.at_ q hqv
            simp only [Option.some.injEq, Addr.mk.injEq, and_true] at e
            obtain ⟨rfl, rfl⟩ := e
            have q0 : (0 : Int) ≤ q := by omega
            have q1 : (q : Int) < vars.length := by omega
            have q2 : (q : Int) < k := by omega
            have k2 : (k : Int) < vars.length := by omega
            have g0 := hK.1.size
            have g1 : w.heap.size < wr.heap.size := by omega
            have g3 : bb < wr.heap.size := by omega
            have hd := hid (hdup.out q hqv hlt2)
            by_cases heq : vars[q] = s
            · have hf := hid (hd.out (heq.trans Hs.out))
              rw [heq] at f0
              have heqs : (s.toList == s.toList) = true := by simp
              clear hd heq hJ
              go_wp2_with fail
              go_quiet (fail)
              have HK3 := hid (drewN_kp hK nq)
              go_wp2_with fail
              go_ret
              exact ⟨ret_bool (by rw [hf.out]), Kp.fin HB.out HK3.out⟩
            · have hJ2 : Hid (∀ p (hp : p < vars.length), p < q + 1 → vars[p] ≠ s) := fun p hp h => by
                by_cases e : p = q
                · subst e; exact heq
                · exact hJ.out p hp (by omega)
              have heqs := str_ne heq
              generalize vars[q] = z at f0 heqs
              clear hd heq hJ
              go_wp2_with fail
              go_quiet (fail)
              have HK3 := hid (drewN_kp hK nq)
              go_wp2_with fail
              go_roundw
              case rel => exact ⟨q + 1, by omega, by simp, hJ2, HK3.out⟩
              case measure => simp [intOf]; omega
          · obtain rfl : q = k := by omega
            have hno := hid (hnod.out fun p hp h => by rw [← Hs.out]; exact hJ.out p hp h)
            clear hJ hdup hnod
            go_wp2_with fail
            go_roundw
            case rel => exact ⟨q + 1, by omega, by simp, ⟨hall2.out, hno.out⟩, hK⟩
            case measure => simp [intOf]; omega
    · obtain rfl : k = vars.length := by omega
      rw [List.take_length] at hI
      have hres3 : Hid (rightP ⟨vars, dom, ths⟩ = sumT vars.length dom ths) := by
        show _ = _
        rw [hres2.out, hI.out.1, decide_eq_true hI.out.2]
        rfl
      clear hI hres2
      go_wp2_with fail
      go_loopw [5, 6] (fun c i wr => ∃ (k n : Nat), k ≤ ths.length ∧ i = .int .i64 k ∧ c = .int .i64 n ∧ n ≤ 200 ∧ Hid (okT vars.length dom (ths.take k) = true ∧ n = cntT (ths.take k)) ∧ Kp W0 wr) (fun _ i _ => ths.length - (intOf i).toNat)
      case atStart => exact ⟨0, 0, Nat.zero_le _, rfl, rfl, by omega, ⟨rfl, rfl⟩, hK⟩
      case round =>
        clear hK
        obtain ⟨k, n, hk, rfl, rfl, hn2, hI, hK⟩ := hrel
        by_cases hlt : k < ths.length
        · obtain ⟨bb, off, ar, kr, rfl, hbb, e0, hrow⟩ := Ht.out.at_ k hlt
          have hbl := hbb.lt
          have k0 : (0 : Int) ≤ k := by omega
          have k1 : (k : Int) < ths.length := by omega
          have g0 := hK.1.size
          have g1 : w.heap.size < wr.heap.size := by omega
          have g3 : bb < wr.heap.size := by omega
          have hbad : Hid (sumB vars.length dom 20 ths[k] 0 = false → rightP ⟨vars, dom, ths⟩ = false) := fun h => by
            rw [hres3.out]
            rcases sumB_false h with h | h
            · exact okT_bad hlt h
            · exact sumT_many hlt (by omega)
          have hmany : Hid (200 < n + cntL ths[k] → rightP ⟨vars, dom, ths⟩ = false) := fun h => by
            rw [hres3.out]
            exact sumT_many hlt (by rw [← hI.out.2]; exact h)
          have hgood : Hid (sumB vars.length dom 20 ths[k] 0 = true → okT vars.length dom (ths.take (k + 1)) = true ∧ n + cntL ths[k] = cntT (ths.take (k + 1))) := fun h => by
            exact ⟨okT_step hlt hI.out.1 (sumB_true h).1, by rw [cntT_take ths k hlt, hI.out.2]⟩
          have hcall : Hid (∀ W, Kp W0 W → Calls Tryz.prog 36 #[.slice ar ths[k].length kr, .int .i64 20, .int .i64 vars.length, .int .i64 dom] W (StmtsPost vars.length dom 20 ths[k] W)) := fun W hW =>
            refstmts_any vars.length dom 20 (by omega) 20 ths[k] ar kr W rfl (hW.strow hrow)
          unfold StmtsPost at hcall
          clear hI hrow
          generalize sumB vars.length dom 20 ths[k] 0 = r at *
          generalize cntL ths[k] = m at *
          generalize ths[k].length = tl at *
          go_wp2_with fail
          go_region_held3 (Kp W0)
            (first | exact Kp.drew hK | assumption | exact Kp.next (by assumption) hb1)
            (first
              | (go_at_call 36
                 with_reducible refine (hcall.out _ ?_).mono ?_
                 (focus assumption)
                 rintro e w1 ⟨n1, rfl, hn10, hn11, hn12, hb1⟩)
              | fail)
          have HK := ‹Kp W0 w1›
          cases r
          · have hf := hid (hbad.out rfl)
            go_wp2_with fail
            go_ret
            exact ⟨ret_bool (by rw [hf.out]), Kp.fin HB.out HK⟩
          obtain rfl := hn12 rfl
          have hg2 := hgood.out rfl
          by_cases hm : 200 < n + m
          · have hf := hid (hmany.out hm)
            have hm2 : (200 : Int) < (n : Int) + m := by omega
            go_wp2_with fail
            go_ret
            exact ⟨ret_bool (by rw [hf.out]), Kp.fin HB.out HK⟩
          · have hm2 : ¬ (200 : Int) < (n : Int) + m := by omega
            have Hg2 := hid hg2
            clear hg2
            go_wp2_with fail
            go_roundw
            case rel => exact ⟨k + 1, n + m, by omega, by simp, by simp, by omega, Hg2, HK⟩
            case measure => simp [intOf]; omega
        · obtain rfl : k = ths.length := by omega
          rw [List.take_length] at hI
          have hf : Hid (rightP ⟨vars, dom, ths⟩ = true) := by
            show _ = _
            rw [hres3.out]
            unfold sumT
            rw [hI.out.1, ← hI.out.2]
            simpa using hn2
          clear hI
          go_wp2_with fail
          go_ret
          exact ⟨ret_bool (by rw [hf.out]), Kp.fin HB.out hK⟩
end Go.Proofs.YtcgpobeidlimkaaGreatDoor
