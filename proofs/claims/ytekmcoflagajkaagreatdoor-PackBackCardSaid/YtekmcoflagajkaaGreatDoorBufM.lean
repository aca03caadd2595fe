/- The document's Heads: the walk. -/
import Derived.Test.YtekmcoflagajkaaGreatDoorBunU
namespace Go.Proofs.YtekmcoflagajkaaGreatDoor
open Go.RowKit

/-- New blocks. -/
abbrev Nw (w W : World) : Nat → Prop := fun b => w.heap.size ≤ b ∧ b < W.heap.size
theorem Kp.intsN {w W0 W : World} (h : Kp W0 W) {a : Option Addr} {n cap : Nat} {l : List Int} (hx : IntIn W0 (Nw w W0) a n cap l) : IntIn W (Nw w W) a n cap l := (hx.keep fun b o hb => h.2 b o hb.2).widen fun _ hb => ⟨hb.1, Nat.lt_of_lt_of_le hb.2 h.1.size⟩
def HeadsN (w : World) (r : List Int) (e : Ending) (w' : World) : Prop :=
  ∃ a cap, e = .returned (.slice a r.length cap) ∧ IntIn w' (Nw w w') a r.length cap r ∧ Below w.heap.size w w'

theorem insF_succ (v : Int) (o : List Int) (k : Nat) (hk : k < o.length) : (o.take (k + 1)).foldl (insStep v) ([], false) = insStep v ((o.take k).foldl (insStep v) ([], false)) o[k] := by
  rw [List.take_succ_eq_append_getElem hk, List.foldl_append]; rfl
theorem insF_len (v : Int) (o : List Int) (k : Nat) (hk : k ≤ o.length) : ((o.take k).foldl (insStep v) ([], false)).1.length ≤ k + 1 := by
  have h := insP_fold v (o.take k) ([], false)
  unfold insP at h
  rw [List.length_take] at h
  simp at h
  omega

/-- Has no store gone to the variable? -/
def freshB (v : Int) (xs : List (Int × Int)) : Bool := decide (v ∉ xs.map (·.1))
theorem freshB_take (v : Int) (l : List (Int × Int)) (t : Nat) (ht : t < l.length) : freshB v (l.take (t + 1)) = (freshB v (l.take t) && (l[t].1 != v)) := by
  unfold freshB
  rw [List.take_succ_eq_append_getElem ht, List.map_append, bne]
  by_cases h : v ∈ (l.take t).map (·.1)
  · simp only [List.mem_append, h, true_or, not_true_eq_false, decide_false, Bool.false_and]
  · by_cases h2 : v = l[t].1
    · simp [h2]
    · have h3 : (l[t].1 == v) = false := by rw [beq_eq_false_iff_ne]; exact fun e => h2 e.symm
      simp only [List.mem_append, h, false_or, List.map_cons, List.map_nil, List.mem_singleton, h2, not_false_eq_true, decide_true, h3, Bool.not_false, Bool.and_true]
theorem freshB_nil (v : Int) : freshB v [] = true := by simp [freshB]

set_option maxHeartbeats 4000000 in
theorem refHeads_small (a : Option Addr) (n cap : Nat) (l : List (Int × Int)) (m : Int) (hm : m ≠ 2) (w : World) (hl : EnIn w (In_ w) a n cap l) :
    Calls Tryz.prog 37 #[.slice a n cap, .int .i64 m] w (HeadsN w (refHeadsL m l)) := by
  have hn := hl.1
  subst hn
  have hcap := hl.2.le
  have hmx := hl.2.mx
  unfold maxLen at hmx
  have hh : refHeadsL m l = if m = 1 then (l.map (·.1)).take 1 else [] := by unfold refHeadsL; rw [if_neg hm]
  have hm2 : (m != 2) = true := by rw [bne_iff_ne]; exact hm
  by_cases hm1 : m = 1
  · rw [if_pos hm1] at hh
    have hm1' : (m == 1) = true := by simpa using hm1
    clear hm1
    rcases Nat.eq_zero_or_pos l.length with h0 | h0
    · have e0 : l = [] := List.eq_nil_of_length_eq_zero h0
      have hfin : Hid (HeadsN w (refHeadsL m l) (.returned (.slice none 0 0)) w) := by
        rw [hh, e0]
        exact ⟨none, 0, rfl, IntIn.nil_, Below.refl _ _⟩
      have hz : ¬ (0 : Int) < l.length := by omega
      clear hh e0 hm
      go_enter Tryz.func37, Tryz.ntmps37
      go_wp2_with fail
      go_ret
      exact hfin.out
    · obtain ⟨b, off, rfl, hbb, e0, e1⟩ := hl.at_ 0 h0
      have hbl := hbb.lt
      have e2 : (l.map (·.1)).take 1 = [l[0].1] := by
        cases l with
        | nil => simp at h0
        | cons y l => rfl
      rw [e2] at hh
      have Hh := hid hh
      have hz : (0 : Int) < l.length := by omega
      simp only [Nat.zero_mul, Nat.add_zero] at e0 e1
      clear hh e2 hm
      go_enter Tryz.func37, Tryz.ntmps37
      go_wp2_with (first
        | (at_builtin
           refine list_int (base := w.heap.size) (.tmp 21) (.tmp 26) (.slice none 0 0) 0 [] 1 [.int .i64 l[0].1] ?_ ?_ ?_ ?_ ?_ ?_ ?_ ?_ ?_
           (focus rfl); (focus rfl); (focus rfl); (focus exact World.ownsRow_nil _ _ _ _); (focus exact ⟨_, _, rfl, src_new rfl⟩); (focus exact one_int); (focus omega); (focus (first | (simp; done) | (simp; omega)))
           intro v2 w2 hown3 hg3 hat3)
        | fail)
      have hb2 : Below w.heap.size w w2 := ((Below.refl _ _).alloc (Nat.le_refl _) _).grown hg3 (by simp) (fun k hk => by simp [Value.ownBlock] at hk)
      have hown4 : w2.ownsRow w.heap.size 3 1 v2 [l[0].1].length ([l[0].1].map (Value.int .i64)) := by simpa using hown3
      obtain ⟨a3, cap3, rfl, hin, _⟩ := IntIn.of_ownT hown4
      have hfin : Hid (HeadsN w (refHeadsL m l) (.returned (.slice a3 1 cap3)) w2) := by
        rw [Hh.out]
        exact ⟨a3, cap3, rfl, hin, hb2⟩
      clear hown3 hown4 hg3 hat3 hin
      go_wp2_with fail
      go_ret
      exact hfin.out
  · rw [if_neg hm1] at hh
    have hm1' : (m == 1) = false := by simpa using hm1
    have hfin : Hid (HeadsN w (refHeadsL m l) (.returned (.slice none 0 0)) w) := by
      rw [hh]
      exact ⟨none, 0, rfl, IntIn.nil_, Below.refl _ _⟩
    clear hh hm hm1
    go_enter Tryz.func37, Tryz.ntmps37
    go_wp2_with fail
    go_ret
    exact hfin.out

/-- A number appended to a row of the call's own. -/
theorem appended {wr wx w2 W2 : World} {a2 : Option Addr} {n2 c2 : Nat} {X : List Int} {y : Int} {v2 : Value} (hown : Hid (wr.ownsRow W2.heap.size 3 1 (.slice a2 n2 c2) X.length (X.map (Value.int .i64))))
    (h1 : w2.ownsRow W2.heap.size 3 1 v2 (X.length + 1) (X.map (Value.int .i64) ++ [.int .i64 y])) (hg : wx.grownBy w2 (Value.slice a2 n2 c2).ownBlock) (hk : Kp W2 wx) :
    Hid (w2.ownsRow W2.heap.size 3 1 v2 (X ++ [y]).length ((X ++ [y]).map (Value.int .i64))) ∧ (∃ a3 n3 c3, v2 = .slice a3 n3 c3) ∧ Kp W2 w2 := by
  have h3 : w2.ownsRow W2.heap.size 3 1 v2 (X ++ [y]).length ((X ++ [y]).map (Value.int .i64)) := by simpa using h1
  obtain ⟨a3, cap3, rfl, _, _⟩ := IntIn.of_ownT h3
  exact ⟨h3, ⟨_, _, _, rfl⟩, hk.grown hg (fun k hk => (hown.out.lt k hk).1)⟩

set_option maxRecDepth 100000 in
set_option maxHeartbeats 8000000 in
theorem refHeads_big (a : Option Addr) (n cap : Nat) (l : List (Int × Int)) (w : World) (hl : EnIn w (In_ w) a n cap l) (hlen : l.length ≤ 1000) :
    Calls Tryz.prog 37 #[.slice a n cap, .int .i64 2] w (HeadsN w (hdL l)) := by
  have hn := hl.1
  subst hn
  have hcap := hl.2.le
  have hmx := hl.2.mx
  unfold maxLen at hmx
  go_enter Tryz.func37, Tryz.ntmps37
  go_wp2_with fail
  go_loopw [5, 6] (fun o i wr => ∃ k : Nat, k ≤ l.length ∧ i = .int .i64 k ∧ Kp w wr ∧ (∃ a1 c1, o = .slice a1 (hdL (l.take k)).length c1 ∧ Hid (IntIn wr (Nw w wr) a1 (hdL (l.take k)).length c1 (hdL (l.take k))))) (fun _ i _ => l.length - (intOf i).toNat)
  case atStart => exact ⟨0, Nat.zero_le _, rfl, Kp.refl _, none, 0, rfl, IntIn.nil_⟩
  case round =>
    rename World => Wo
    obtain ⟨k, hk, rfl, hK, a1, c1, rfl, hO⟩ := hrel
    by_cases hlt : k < l.length
    · have hts : Hid (hdL (l.take (k + 1)) = if l[k].1 ∈ (l.take k).map (·.1) then hdL (l.take k) else insH l[k].1 (hdL (l.take k))) := by
        show _ = _
        rw [List.take_succ_eq_append_getElem hlt, hdL_snoc]
      have hOl : Hid ((hdL (l.take k)).length ≤ k) := Nat.le_trans (hdL_len _) (List.length_take_le _ _)
      generalize hC : hdL (l.take k) = O at *
      clear hC
      have k0 : (0 : Int) ≤ k := by omega
      have k1 : (k : Int) < l.length := by omega
      obtain ⟨bb, off, rfl, hbb, e0, e1⟩ := hl.at_ k hlt
      have hbl := hbb.lt
      go_wp2_with fail
      go_loopw [7, 8] (fun f j wr => ∃ t : Nat, t ≤ k ∧ j = .int .i64 t ∧ Kp Wo wr ∧ f = .bool (freshB l[k].1 (l.take t))) (fun _ j _ => k - (intOf j).toNat)
      case atStart => exact ⟨0, Nat.zero_le _, rfl, Kp.refl _, by rw [List.take_zero, freshB_nil]⟩
      case round =>
        obtain ⟨t, ht, rfl, hKi, rfl⟩ := hrel
        by_cases htk : t < k
        · obtain ⟨bb', off', e, hbb', f0, f1⟩ := hl.at_ t (by omega)
          obtain ⟨rfl, rfl⟩ : bb = bb' ∧ off = off' := by simpa using e
          clear e hbb' f1 e1
          have hf := hid (freshB_take l[k].1 l t (by omega))
          have g0 := hK.1.size
          have g1 := hKi.1.size
          have e0' : wr.cell? ⟨bb, off + k * 2, none⟩ = some (.int .i64 l[k].1) := (hKi.2 _ _ (by omega)).trans ((hK.2 _ _ (by omega)).trans e0)
          have f0' : wr.cell? ⟨bb, off + t * 2, none⟩ = some (.int .i64 (l[t]'(by omega)).1) := (hKi.2 _ _ (by omega)).trans ((hK.2 _ _ (by omega)).trans f0)
          have t0 : (0 : Int) ≤ t := by omega
          have t1 : (t : Int) < l.length := by omega
          have t2 : (t : Int) < k := by omega
          cases hb : freshB l[k].1 (l.take t) with
          | false =>
            rw [hb] at hf
            have hf2 : Hid (freshB l[k].1 (l.take (t + 1)) = false) := by show _ = _; rw [hf.out]; rfl
            clear hf hb hO hts
            go_wp2_with fail
            go_quiet (fail)
            go_wp2_with fail
            go_roundw
            case rel => exact ⟨t + 1, by omega, by simp, drewN_kp hKi nq, by rw [hf2.out]⟩
            case measure => simp [intOf]; omega
          | true =>
            rw [hb] at hf
            cases hc : ((l[t]'(by omega)).1 != l[k].1) with
            | false =>
              have hf2 : Hid (freshB l[k].1 (l.take (t + 1)) = false) := by show _ = _; rw [hf.out, hc]; rfl
              clear hf hb hO hts
              go_wp2_with fail
              go_quiet (fail)
              go_wp2_with fail
              go_roundw
              case rel => exact ⟨t + 1, by omega, by simp, drewN_kp hKi nq, by rw [hf2.out]⟩
              case measure => simp [intOf]; omega
            | true =>
              have hf2 : Hid (freshB l[k].1 (l.take (t + 1)) = true) := by show _ = _; rw [hf.out, hc]; rfl
              clear hf hb hO hts
              go_wp2_with fail
              go_quiet (fail)
              go_wp2_with fail
              go_roundw
              case rel => exact ⟨t + 1, by omega, by simp, drewN_kp hKi nq, by rw [hf2.out]⟩
              case measure => simp [intOf]; omega
        · obtain rfl : t = k := by omega
          have hfr : freshB l[t].1 (l.take t) = decide (l[t].1 ∉ (l.take t).map (·.1)) := rfl
          by_cases hin : l[t].1 ∈ (l.take t).map (·.1)
          · rw [decide_eq_false (by simpa using hin)] at hfr
            have hts2 : Hid (hdL (l.take (t + 1)) = O) := by show _ = _; rw [hts.out, if_pos hin]
            clear hin hts
            go_wp2_with fail
            go_roundw
            case rel => exact ⟨t + 1, by omega, by simp, hK.next hKi.1, a1, c1, by rw [hts2.out], by rw [hts2.out]; exact hKi.intsN hO.out⟩
            case measure => simp [intOf]; omega
          · rw [decide_eq_true (by simpa using hin)] at hfr
            have hts2 : Hid (hdL (l.take (t + 1)) = insH l[t].1 O) := by show _ = _; rw [hts.out, if_neg hin]
            have hO2 := hid (hKi.intsN hO.out)
            have hv : wr.cell? ⟨bb, off + t * 2, none⟩ = some (.int .i64 l[t].1) := (hKi.2 _ _ (by have := hK.1.size; omega)).trans ((hK.2 _ _ (by omega)).trans e0)
            have hK2 := hid (hK.next hKi.1)
            have hbw : bb < wr.heap.size := by have := hK.1.size; have := hKi.1.size; omega
            have hOc := hO.out.2.le
            have hOm := hO.out.2.mx
            unfold maxLen at hOm
            have hOl2 : O.length ≤ 1000 := by have := hOl.out; omega
            have HOl := hid hOl2
            clear hin hts hO hOl hOl2 hl e1 hK hKi e0
            rename World => W2
            generalize hV : l[t].1 = v at *
            rw [hfr]
            clear hfr
            go_wp2_with fail
            go_loopw [9, 10, 11] (fun nx d j wr => ∃ s : Nat, s ≤ O.length ∧ j = .int .i64 s ∧ d = .bool ((O.take s).foldl (insStep v) ([], false)).2 ∧ Kp W2 wr ∧ (∃ a2 n2 c2, nx = .slice a2 n2 c2) ∧
              Hid (wr.ownsRow W2.heap.size 3 1 nx ((O.take s).foldl (insStep v) ([], false)).1.length (((O.take s).foldl (insStep v) ([], false)).1.map (Value.int .i64)))) (fun _ _ j _ => O.length - (intOf j).toNat)
            case atStart => exact ⟨0, Nat.zero_le _, rfl, rfl, Kp.refl _, ⟨_, _, _, rfl⟩, World.ownsRow_nil _ _ _ _⟩
            case round =>
              obtain ⟨s, hs, rfl, rfl, hK3, ⟨a2, n2, c2, rfl⟩, hown⟩ := hrel
              have hFl := hid (insF_len v O s hs)
              have hv3 : wr.cell? ⟨bb, off + t * 2, none⟩ = some (.int .i64 v) := (hK3.2 _ _ hbw).trans hv
              have g3 := hK3.1.size
              by_cases hsl : s < O.length
              · obtain ⟨ob, oo, rfl, hob, o0⟩ := hO2.out.at_ s hsl
                have hobl := hob.2
                have o0' : wr.cell? ⟨ob, oo + s, none⟩ = some (.int .i64 O[s]) := (hK3.2 _ _ hobl).trans o0
                have s0 : (0 : Int) ≤ s := by omega
                have s1 : (s : Int) < O.length := by omega
                have q0 : (0 : Int) ≤ t := by omega
                have q1 : (t : Int) < l.length := by omega
                have hF := hid (insF_succ v O s hsl)
                generalize (O.take s).foldl (insStep v) ([], false) = F at *
                obtain ⟨X, d⟩ := F
                simp only at hFl hown
                have hbr : d = true ∨ (d = false ∧ v < O[s]) ∨ (d = false ∧ O[s] ≤ v) := by
                  cases d
                  · right
                    by_cases h : v < O[s]
                    · exact .inl ⟨rfl, h⟩
                    · exact .inr ⟨rfl, by omega⟩
                  · exact .inl rfl
                have b0 : bb < wr.heap.size := by omega
                have b1 : ob < wr.heap.size := by omega
                rcases hbr with rfl | ⟨rfl, hvy⟩ | ⟨rfl, hvy⟩
                · have hF2 : Hid ((O.take (s + 1)).foldl (insStep v) ([], false) = (X ++ [O[s]], true)) := by show _ = _; rw [hF.out]; simp [insStep]
                  clear hF
                  go_wp2_with fail
                  go_quiet (fail)
                  obtain ⟨wq, hq⟩ : ∃ wq, wq = wr.drewN nq := ⟨_, rfl⟩
                  rw [← hq]
                  have hKq : Kp W2 wq := by rw [hq]; exact drewN_kp hK3 nq
                  have howq : Hid (wq.ownsRow W2.heap.size 3 1 (.slice a2 n2 c2) X.length (X.map (Value.int .i64))) := by rw [hq]; exact hown.out
                  have o0q : wq.cell? ⟨ob, oo + s, none⟩ = some (.int .i64 O[s]) := by rw [hq]; exact o0'
                  have hvq : wq.cell? ⟨bb, off + t * 2, none⟩ = some (.int .i64 v) := by rw [hq]; exact hv3
                  have gq := hKq.1.size
                  clear hq hv3 o0' hown hK3
                  go_wp2_with (first
                    | (at_builtin
                       refine list_int (base := W2.heap.size) (.tmp 84) (.tmp 89) (.slice a2 n2 c2) X.length (X.map (Value.int .i64)) 1 [.int .i64 O[s]] ?_ ?_ ?_ ?_ ?_ ?_ ?_ ?_ ?_
                       (focus rfl); (focus rfl); (focus rfl); (focus exact howq.out.alloc _); (focus exact ⟨_, _, rfl, src_new rfl⟩); (focus exact one_int); (focus (have := hFl.out; have := HOl.out; omega)); (focus (first | (simp; done) | (simp; omega)))
                       intro v4 w4 hown4 hg4 hat4)
                    | fail)
                  obtain ⟨H1, ⟨a5, n5, c5, rfl⟩, H3⟩ := appended howq hown4 hg4 (hKq.alloc _)
                  clear hown4 hg4 hat4 howq hvq o0q hKq gq
                  go_wp2_with fail
                  go_roundw
                  case rel => exact ⟨s + 1, by omega, by simp, by rw [hF2.out], H3, ⟨_, _, _, rfl⟩, by rw [hF2.out]; exact H1⟩
                  case measure => simp [intOf]; omega
                · have hF2 : Hid ((O.take (s + 1)).foldl (insStep v) ([], false) = (X ++ [v] ++ [O[s]], true)) := by show _ = _; rw [hF.out]; simp [insStep, hvy]
                  clear hF
                  go_wp2_with fail
                  go_quiet (fail)
                  obtain ⟨wq, hq⟩ : ∃ wq, wq = wr.drewN nq := ⟨_, rfl⟩
                  rw [← hq]
                  have hKq : Kp W2 wq := by rw [hq]; exact drewN_kp hK3 nq
                  have howq : Hid (wq.ownsRow W2.heap.size 3 1 (.slice a2 n2 c2) X.length (X.map (Value.int .i64))) := by rw [hq]; exact hown.out
                  have o0q : wq.cell? ⟨ob, oo + s, none⟩ = some (.int .i64 O[s]) := by rw [hq]; exact o0'
                  have hvq : wq.cell? ⟨bb, off + t * 2, none⟩ = some (.int .i64 v) := by rw [hq]; exact hv3
                  have gq := hKq.1.size
                  clear hq hv3 o0' hown hK3
                  go_wp2_with (first
                    | (at_builtin
                       refine list_int (base := W2.heap.size) (.tmp 76) (.tmp 82) (.slice a2 n2 c2) X.length (X.map (Value.int .i64)) 1 [.int .i64 v] ?_ ?_ ?_ ?_ ?_ ?_ ?_ ?_ ?_
                       (focus rfl); (focus rfl); (focus rfl); (focus exact howq.out.alloc _); (focus exact ⟨_, _, rfl, src_new rfl⟩); (focus exact one_int); (focus (have := hFl.out; have := HOl.out; omega)); (focus (first | (simp; done) | (simp; omega)))
                       intro v4 w4 hown4 hg4 hat4
                       obtain ⟨H1, ⟨a5, n5, c5, rfl⟩, H3⟩ := appended howq hown4 hg4 (hKq.alloc _)
                       have o04 : w4.cell? ⟨ob, oo + s, none⟩ = some (.int .i64 O[s]) := (H3.2 _ _ hobl).trans o0
                       have g4 := H3.1.size
                       have b4 : ob < w4.heap.size := by omega
                       clear hown4 hg4 hat4 howq hvq o0q hKq gq)
                    | (at_builtin
                       refine list_int (base := W2.heap.size) (.tmp 84) (.tmp 89) (.slice a5 n5 c5) (X ++ [v]).length ((X ++ [v]).map (Value.int .i64)) 1 [.int .i64 O[s]] ?_ ?_ ?_ ?_ ?_ ?_ ?_ ?_ ?_
                       (focus rfl); (focus rfl); (focus rfl); (focus exact H1.out.alloc _); (focus exact ⟨_, _, rfl, src_new rfl⟩); (focus exact one_int); (focus (have := hFl.out; have := HOl.out; simp only [List.length_append, List.length_cons, List.length_nil]; omega)); (focus (first | (simp; done) | (simp; omega)))
                       intro v6 w6 hown6 hg6 hat6)
                    | fail)
                  obtain ⟨H4, ⟨a7, n7, c7, rfl⟩, H6⟩ := appended H1 hown6 hg6 (H3.alloc _)
                  clear hown6 hg6 hat6 H1 H3 o04
                  go_wp2_with fail
                  go_roundw
                  case rel => exact ⟨s + 1, by omega, by simp, by rw [hF2.out], H6, ⟨_, _, _, rfl⟩, by rw [hF2.out]; exact H4⟩
                  case measure => simp [intOf]; omega
                · have hF2 : Hid ((O.take (s + 1)).foldl (insStep v) ([], false) = (X ++ [O[s]], false)) := by show _ = _; rw [hF.out]; simp [insStep, show ¬ v < O[s] by omega]
                  clear hF
                  go_wp2_with fail
                  go_quiet (fail)
                  obtain ⟨wq, hq⟩ : ∃ wq, wq = wr.drewN nq := ⟨_, rfl⟩
                  rw [← hq]
                  have hKq : Kp W2 wq := by rw [hq]; exact drewN_kp hK3 nq
                  have howq : Hid (wq.ownsRow W2.heap.size 3 1 (.slice a2 n2 c2) X.length (X.map (Value.int .i64))) := by rw [hq]; exact hown.out
                  have o0q : wq.cell? ⟨ob, oo + s, none⟩ = some (.int .i64 O[s]) := by rw [hq]; exact o0'
                  have hvq : wq.cell? ⟨bb, off + t * 2, none⟩ = some (.int .i64 v) := by rw [hq]; exact hv3
                  have gq := hKq.1.size
                  clear hq hv3 o0' hown hK3
                  go_wp2_with (first
                    | (at_builtin
                       refine list_int (base := W2.heap.size) (.tmp 84) (.tmp 89) (.slice a2 n2 c2) X.length (X.map (Value.int .i64)) 1 [.int .i64 O[s]] ?_ ?_ ?_ ?_ ?_ ?_ ?_ ?_ ?_
                       (focus rfl); (focus rfl); (focus rfl); (focus exact howq.out.alloc _); (focus exact ⟨_, _, rfl, src_new rfl⟩); (focus exact one_int); (focus (have := hFl.out; have := HOl.out; omega)); (focus (first | (simp; done) | (simp; omega)))
                       intro v4 w4 hown4 hg4 hat4)
                    | fail)
                  obtain ⟨H1, ⟨a5, n5, c5, rfl⟩, H3⟩ := appended howq hown4 hg4 (hKq.alloc _)
                  clear hown4 hg4 hat4 howq hvq o0q hKq gq
                  go_wp2_with fail
                  go_roundw
                  case rel => exact ⟨s + 1, by omega, by simp, by rw [hF2.out], H3, ⟨_, _, _, rfl⟩, by rw [hF2.out]; exact H1⟩
                  case measure => simp [intOf]; omega
              · obtain rfl : s = O.length := by omega
                rw [List.take_length] at hown hFl
                have q0 : (0 : Int) ≤ t := by omega
                have q1 : (t : Int) < l.length := by omega
                have b0 : bb < wr.heap.size := by omega
                have hins : insH v O = if (O.foldl (insStep v) ([], false)).2 then (O.foldl (insStep v) ([], false)).1 else (O.foldl (insStep v) ([], false)).1 ++ [v] := rfl
                simp only [List.take_length]
                generalize O.foldl (insStep v) ([], false) = F at *
                obtain ⟨X, d⟩ := F
                simp only at hFl hown hins
                have Hw := hid (hK2.out.1.trans (hK3.1.mono hK2.out.1.size))
                cases d with
                | true =>
                  have hts3 : Hid (hdL (l.take (t + 1)) = X) := by show _ = _; rw [hts2.out, hins]; rfl
                  obtain ⟨a3, cap3, ha3, hin3, _⟩ := IntIn.of_ownT hown.out
                  cases ha3
                  have Hin3 := hid (hin3.widen (S' := Nw w wr) fun b hb => ⟨Nat.le_trans hK2.out.1.size hb.1, hb.2⟩)
                  clear hins hin3 hown
                  go_wp2_with fail
                  go_roundw
                  case rel => exact ⟨t + 1, by omega, by simp, .of Hw.out, _, _, by rw [hts3.out], by rw [hts3.out]; exact Hin3.out⟩
                  case measure => simp [intOf]; omega
                | false =>
                  have hts3 : Hid (hdL (l.take (t + 1)) = X ++ [v]) := by show _ = _; rw [hts2.out, hins]; rfl
                  clear hins
                  go_wp2_with (first
                    | (at_builtin
                       refine list_int (base := W2.heap.size) (.tmp 93) (.tmp 99) (.slice a2 n2 c2) X.length (X.map (Value.int .i64)) 1 [.int .i64 v] ?_ ?_ ?_ ?_ ?_ ?_ ?_ ?_ ?_
                       (focus rfl); (focus rfl); (focus rfl); (focus exact hown.out.alloc _); (focus exact ⟨_, _, rfl, src_new rfl⟩); (focus exact one_int); (focus (have := hFl.out; have := HOl.out; omega)); (focus (first | (simp; done) | (simp; omega)))
                       intro v4 w4 hown4 hg4 hat4)
                    | fail)
                  obtain ⟨H1, _, H3⟩ := appended hown hown4 hg4 (hK3.alloc _)
                  obtain ⟨a3, cap3, rfl, hin3, _⟩ := IntIn.of_ownT H1.out
                  have Hin3 := hid (hin3.widen (S' := Nw w w4) fun b hb => ⟨Nat.le_trans hK2.out.1.size hb.1, hb.2⟩)
                  have Hw4 := hid (hK2.out.1.trans (H3.1.mono hK2.out.1.size))
                  clear hown4 hg4 hat4 hin3 H1 hown Hw
                  go_wp2_with fail
                  go_roundw
                  case rel => exact ⟨t + 1, by omega, by simp, .of Hw4.out, _, _, by rw [hts3.out], by rw [hts3.out]; exact Hin3.out⟩
                  case measure => simp [intOf]; omega
    · obtain rfl : k = l.length := by omega
      rw [List.take_length] at hO
      have hfin : Hid (HeadsN w (hdL l) (.returned (.slice a1 (hdL l).length c1)) Wo) := ⟨a1, c1, rfl, hO.out, hK.1⟩
      clear hO
      simp only [List.take_length]
      generalize hdL l = O at *
      go_wp2_with fail
      go_ret
      exact hfin.out
end Go.Proofs.YtekmcoflagajkaaGreatDoor
