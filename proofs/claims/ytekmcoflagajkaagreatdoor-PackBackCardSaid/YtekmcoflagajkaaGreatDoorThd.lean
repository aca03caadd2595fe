/- The program takes a thread's state. -/
import Derived.Test.YtekmcoflagajkaaGreatDoorBunV
import Derived.Test.YtekmcoflagajkaaGreatDoorPakA
import Derived.Deep.RegionLaw
import Derived.BigRegion
import Derived.IntWalk
namespace Go.Proofs.YtekmcoflagajkaaGreatDoor
open Go.RowKit

def ThreadPost (w : World) (B : Nat) (L : List Int) (e : Ending) (w' : World) : Prop :=
  match takeThr L with
  | some (x, r) => ∃ ar kr, e = .returned (.agg #[.int .i64 x.pc, .int .i64 x.r0, .int .i64 x.r1, .int .i64 x.r2, .int .i64 x.r3, .slice ar x.buf.length kr]) ∧ EnIn w' (fun b => w.heap.size ≤ b ∧ b < w'.heap.size) ar x.buf.length kr x.buf ∧ StB w' B r ∧ w.grownBy w' (some B)
  | none => e = shortP ∧ w.grownBy w' (some B)
theorem ThreadPost.no {w w' : World} {B : Nat} {L : List Int} (h : takeThr L = none) (hg : w.grownBy w' (some B)) : ThreadPost w B L shortP w' := by
  unfold ThreadPost
  rw [h]
  exact ⟨rfl, hg⟩

theorem drop_head {L r : List Int} {x : Int} {j : Nat} (h : L.drop j = x :: r) : L.getD j 0 = x ∧ L.drop (j + 1) = r ∧ j + 1 ≤ L.length := by
  have h1 : (L.drop j).length = r.length + 1 := by rw [h]; rfl
  rw [List.length_drop] at h1
  refine ⟨?_, ?_, by omega⟩
  · have : (L.drop j)[0]? = some x := by rw [h]; rfl
    rw [List.getElem?_drop, Nat.add_zero] at this
    rw [List.getD_eq_getElem?_getD, this]
    rfl
  · have : (L.drop j).drop 1 = r := by rw [h]; rfl
    rw [List.drop_drop] at this
    exact this
theorem drop_end {L : List Int} {j : Nat} (h : L.drop j = []) : L.length ≤ j := by simpa using h

theorem TBox.put5 {w : World} {tb : Nat} {x : Thr} {ar : Option Addr} {kr : Nat} (h : TBox w tb x ar kr) (B : List (Int × Int)) (a : Option Addr) (n k : Nat) (hn : B.length = n) :
    TBox (w.setCell ⟨tb, 5, none⟩ (.slice a n k)) tb ⟨x.pc, x.r0, x.r1, x.r2, x.r3, B⟩ a k := by
  subst hn
  obtain ⟨h9, h0, h1, h2, h3, h4, h5⟩ := h
  refine ⟨by simpa [World.setCell] using h9, ?_, ?_, ?_, ?_, ?_, ?_⟩ <;> go_simp
/-- All six cells written again. -/
theorem six {W : World} {B : Nat} {u0 u1 u2 u3 u4 u5 a b c d e f : Value} (h0 : W.cell? ⟨B, 0, none⟩ = some u0) (h1 : W.cell? ⟨B, 1, none⟩ = some u1) (h2 : W.cell? ⟨B, 2, none⟩ = some u2) (h3 : W.cell? ⟨B, 3, none⟩ = some u3) (h4 : W.cell? ⟨B, 4, none⟩ = some u4) (h5 : W.cell? ⟨B, 5, none⟩ = some u5) :
    ∃ W3, W3 = (((((W.setCell ⟨B, 0, none⟩ a).setCell ⟨B, 1, none⟩ b).setCell ⟨B, 2, none⟩ c).setCell ⟨B, 3, none⟩ d).setCell ⟨B, 4, none⟩ e).setCell ⟨B, 5, none⟩ f ∧
      W.grownBy W3 (some B) ∧ W3.heap.size = W.heap.size ∧
      (W3.cell? ⟨B, 0, none⟩ = some a ∧ W3.cell? ⟨B, 1, none⟩ = some b ∧ W3.cell? ⟨B, 2, none⟩ = some c ∧ W3.cell? ⟨B, 3, none⟩ = some d ∧ W3.cell? ⟨B, 4, none⟩ = some e ∧ W3.cell? ⟨B, 5, none⟩ = some f) := by
  refine ⟨_, rfl, ?_, by simp [World.setCell], ?_, ?_, ?_, ?_, ?_, ?_⟩
  · exact grown_trans (grown_trans (grown_trans (grown_trans (grown_trans (grown_set _ _ _ _) (grown_set _ _ _ _)) (grown_set _ _ _ _)) (grown_set _ _ _ _)) (grown_set _ _ _ _)) (grown_set _ _ _ _)
  all_goals go_simp

set_option maxRecDepth 100000 in
set_option maxHeartbeats 16000000 in
theorem thread_any (B : Nat) (L : List Int) (w : World) (h : StB w B L) (hby : ∀ x ∈ L, ∃ n : Nat, n ≤ 255 ∧ x = n) :
    Calls Tryz.prog 29 #[.func (.func 49) #[] #[.pointer (some ⟨B, 0, none⟩)]] w (ThreadPost w B L) := by
  have hg0 : Hid (w.grownBy w (some B)) := ⟨rfl, rfl, rfl, Nat.le_refl _, fun _ _ _ => rfl⟩
  have hBlt := h.lt
  have H := hid h
  clear h
  generalize hP : ThreadPost w B L = Q
  have HP := hid hP
  clear hP
  go_enter Tryz.func29, Tryz.ntmps29
  go_wp2_with fail
  generalize hV : World.alloc w _ = V
  have hVz : V.heap.size = w.heap.size + 1 := by subst hV; simp
  have hGV : Hid (w.grownBy V (some B)) := by subst hV; exact grown_alloc hg0.out _
  have hSV : StB V B L := by subst hV; exact H.out.alloc _
  have hTV : Hid (TBox V w.heap.size ⟨0, 0, 0, 0, 0, []⟩ none 0) := by
    subst hV
    refine ⟨by simp, ?_, ?_, ?_, ?_, ?_, ?_⟩ <;> go_simp
  have hFV : Hid (∀ o, V.frozen? ⟨w.heap.size, o, none⟩ = false) := by
    subst hV
    intro o
    go_simp
  cases L with
  | nil =>
    have hn := hid (next_any B [] V hSV)
    have hfin : Hid (Q shortP V) := by show Q _ _; rw [← HP.out]; exact ThreadPost.no (takeThr_short (by simp)) hGV.out
    clear hV hSV
    refine hn.out.mono ?_
    rintro e w1 ⟨rfl, rfl⟩
    go_wp2_with fail
    exact ⟨rfl, hfin.out⟩
  | cons a L1 =>
    have hn := hid (next_any B (a :: L1) V hSV)
    clear hV hSV
    refine hn.out.mono ?_
    rintro e w1 ⟨rfl, hS1, hG1, hz1⟩
    obtain ⟨an, ha, rfl⟩ := hby a (by simp)
    have hT1 := hid (hTV.out.grown hG1 (by simp; omega))
    have hF1 : Hid (∀ o, w1.frozen? ⟨w.heap.size, o, none⟩ = false) := fun o => (World.frozen?_of_block (w := V) (a := ⟨_, o, none⟩) (hG1.block _ hTV.out.lt (by simp; omega))).trans (hFV.out o)
    have hGw1 := hid (grown_trans hGV.out hG1)
    obtain ⟨p9, p0, p1, p2, p3, p4, p5⟩ := hT1.out
    have pf := hF1.out 0
    have hS1 := hid hS1
    clear hG1 hz1 hn hTV hFV hGV
    go_wp2_with fail
    generalize hV2 : World.setCell w1 _ _ = V2
    have hG2 : Hid (w1.grownBy V2 (some w.heap.size)) := by subst hV2; exact grown_set _ _ _ _
    have hS2 := hid (hS1.out.grown hG2.out (by simp; omega))
    have hT2 : Hid (TBox V2 w.heap.size ⟨(an : Int) * 256, 0, 0, 0, 0, []⟩ none 0) := by
      subst hV2
      refine ⟨by simpa [World.setCell] using p9, ?_, ?_, ?_, ?_, ?_, ?_⟩ <;> go_simp
    have hF2 : Hid (∀ o, V2.frozen? ⟨w.heap.size, o, none⟩ = false) := by
      subst hV2
      exact fun o => frozen_put (hF1.out o)
    have hGw2 := hid (grown_new hGw1.out hG2.out (fun n hn => by simp at hn; omega))
    clear hV2 hT1 hF1 hS1 hG2 hGw1 p9 p0 p1 p2 p3 p4 p5 pf
    obtain ⟨p9, p0, p1, p2, p3, p4, p5⟩ := hT2.out
    simp only at p0
    have pf := hF2.out 0
    cases L1 with
    | nil =>
      have hn := hid (next_any B [] V2.drew hS2.out.drew)
      have hfin : Hid (Q shortP V2.drew) := by show Q _ _; rw [← HP.out]; exact ThreadPost.no (takeThr_short (by simp)) (grown_drew hGw2.out)
      go_region_law (first
        | (go_simp; go_at_call 49; (with_reducible refine hn.out.mono ?_); intro e w3 hp; cases e;
           (case' panicked => (have h1 := hp.1; have h2 := hp.2; cases h1; subst h2; exact ⟨rfl, hfin.out⟩));
           (case' outgrown => (exact absurd hp.1 (by simp)));
           have HX : Hid False := (by cases hp.1);
           clear hp;
           obtain ⟨n, hv⟩ : ∃ n : Int, ‹Value› = .int .i64 n := HX.out.elim;
           subst hv;
           obtain rfl : V2.drew = w3 := HX.out.elim)
        | fail)
      all_goals exact HX.out.elim
    | cons b L2 =>
      obtain ⟨bn, hbn, rfl⟩ := hby b (by simp)
      have hn := hid (next_any B ((bn : Int) :: L2) V2.drew hS2.out.drew)
      go_region_law (first
        | (go_simp; go_at_call 49; (with_reducible refine hn.out.mono ?_); rintro e w3 ⟨rfl, hS3, hG3, hz3⟩;
           have hT3 := hid (hT2.out.grown (w' := w3) ⟨hG3.os, hG3.tape, hG3.output, hG3.size, hG3.block⟩ (by simp; omega));
           have hF3 : Hid (∀ o, w3.frozen? ⟨w.heap.size, o, none⟩ = false) := fun o => (World.frozen?_of_block (w := V2) (a := ⟨_, o, none⟩) (hG3.block _ p9 (by simp; omega))).trans (hF2.out o);
           have hGw3 := hid (grown_trans (grown_drew hGw2.out) hG3);
           have hS3 := hid hS3;
           clear hG3 hz3;
           obtain ⟨q9, q0, q1, q2, q3, q4, q5⟩ := hT3.out;
           simp only at q0;
           have qf := hF3.out 0)
        | fail)
      all_goals
        have hw1 : IntKind.i64.wrap ((an : Int) * 256 + (bn : Int)) = 256 * (an : Int) + (bn : Int) := by rw [IntWalk.i64_in _ (by omega)]; omega
        rw [hw1]
        clear hw1
        generalize hpc : 256 * (an : Int) + (bn : Int) = pc
        generalize hV4 : World.setCell w3 _ _ = V4
        have hT4 : Hid (TBox V4 w.heap.size ⟨pc, 0, 0, 0, 0, []⟩ none 0) := by
          subst hV4
          refine ⟨by simpa [World.setCell] using q9, ?_, ?_, ?_, ?_, ?_, ?_⟩ <;> go_simp
        have hF4 : Hid (∀ o, V4.frozen? ⟨w.heap.size, o, none⟩ = false) := by
          subst hV4
          exact fun o => frozen_put (hF3.out o)
        have hS4 : Hid (StB V4 B L2) := by
          subst hV4
          exact hS3.out.set (by omega)
        have hGw4 : Hid (w.grownBy V4 (some B)) := by
          subst hV4
          exact grown_new hGw3.out (grown_set _ _ _ _) (fun n hn => by simp at hn; omega)
        have HPC := hid hpc
        clear hV4 hpc hT3 hF3 hS3 hGw3 q9 q0 q1 q2 q3 q4 q5 qf p9 p0 p1 p2 p3 p4 p5 pf hT2 hF2 hS2 hGw2 hn
        generalize htb : w.heap.size = tb at *
        have HTB := hid htb
        clear htb
        go_wp2_with fail
        go_loopw [3, 15] (fun _ i wr => ∃ (j : Nat) (r0 r1 r2 r3 : Int), j ≤ 4 ∧ j ≤ L2.length ∧ i = .int .i64 j ∧ Hid (w.grownBy wr (some B)) ∧ Hid (StB wr B (L2.drop j)) ∧ Hid (TBox wr tb ⟨pc, r0, r1, r2, r3, []⟩ none 0) ∧ Hid (∀ o, wr.frozen? ⟨tb, o, none⟩ = false) ∧ Hid ((0 < j → r0 = L2.getD 0 0) ∧ (1 < j → r1 = L2.getD 1 0) ∧ (2 < j → r2 = L2.getD 2 0) ∧ (3 < j → r3 = L2.getD 3 0))) (fun _ i _ => 4 - (intOf i).toNat)
        case atStart => exact ⟨0, 0, 0, 0, 0, by omega, by omega, rfl, hGw4.out, hS4.out, hT4.out, hF4.out, by omega, by omega, by omega, by omega⟩
        case round =>
          obtain ⟨j, r0, r1, r2, r3, hj, hjl, rfl, hG5, hS5, hT5, hF5, hr⟩ := hrel
          by_cases hj4 : j < 4
          · have hLlen : Hid (((an : Int) :: (bn : Int) :: L2).length = L2.length + 2) := rfl
            cases hd : L2.drop j with
            | nil =>
              have hle := drop_end hd
              have hnx := hid (next_any B [] wr (by rw [← hd]; exact hS5.out))
              have hfin : Hid (Q shortP wr) := by show Q _ _; rw [← HP.out]; exact ThreadPost.no (takeThr_short (by rw [hLlen.out]; omega)) hG5.out
              clear hd
              go_wp2_with fail
              refine hnx.out.mono ?_
              rintro e w5 ⟨rfl, rfl⟩
              go_wp2_with fail
              exact ⟨rfl, hfin.out⟩
            | cons x r =>
            obtain ⟨hd0, hd1, hd2⟩ := drop_head hd
            have hnx := hid (next_any B (x :: r) wr (by rw [← hd]; exact hS5.out))
            have hd0 := hid hd0
            have hd1 := hid hd1
            clear hd
            go_wp2_with fail
            refine hnx.out.mono ?_
            rintro e V5 ⟨rfl, hSv, hG6, hz6⟩
            have hTv := hid (hT5.out.grown hG6 (by simp; omega))
            have hFv : Hid (∀ o, V5.frozen? ⟨tb, o, none⟩ = false) := fun o => (World.frozen?_of_block (w := wr) (a := ⟨_, o, none⟩) (hG6.block _ hT5.out.lt (by simp; omega))).trans (hF5.out o)
            have hGv := hid (grown_trans hG5.out hG6)
            have hSv := hid hSv
            obtain ⟨q9, q0, q1, q2, q3, q4, q5⟩ := hTv.out
            simp only at q0 q1 q2 q3 q4 q5
            have qf := hFv.out
            clear hG6 hz6 hnx hG5 hS5 hT5 hF5
            have hj5 : j = 0 ∨ j = 1 ∨ j = 2 ∨ j = 3 := by omega
            rcases hj5 with rfl | rfl | rfl | rfl
            · have hcl : (V5.cell? ⟨tb, 1, none⟩) = some (.int .i64 r0) := q1
              go_wp2_with fail
              generalize hV6 : World.setCell V5 _ _ = V6
              have hT6 : Hid (TBox V6 tb ⟨pc, x, r1, r2, r3, []⟩ none 0) := by
                subst hV6
                refine ⟨by simpa [World.setCell] using q9, ?_, ?_, ?_, ?_, ?_, ?_⟩ <;> go_simp
              have hF6 : Hid (∀ o, V6.frozen? ⟨tb, o, none⟩ = false) := by
                subst hV6
                exact fun o => frozen_put (hFv.out o)
              have hS6 : Hid (StB V6 B (L2.drop (0 + 1))) := by
                subst hV6
                show StB _ _ _
                rw [hd1.out]
                exact hSv.out.set (by omega)
              have hGw6 : Hid (w.grownBy V6 (some B)) := by
                subst hV6
                exact grown_new hGv.out (grown_set _ _ _ _) (fun n hn => by have := HTB.out; simp at hn; omega)
              have hr6 : Hid ((0 < 0 + 1 → x = L2.getD 0 0) ∧ (1 < 0 + 1 → r1 = L2.getD 1 0) ∧ (2 < 0 + 1 → r2 = L2.getD 2 0) ∧ (3 < 0 + 1 → r3 = L2.getD 3 0)) := by
                have h0 := hr.out
                have h1 := hd0.out
                exact ⟨fun _ => h1.symm, fun h => absurd h (by omega), fun h => absurd h (by omega), fun h => absurd h (by omega)⟩
              clear hV6 q9 q0 q1 q2 q3 q4 q5 qf hcl hTv hFv hSv hGv
              go_roundw
              case rel => exact ⟨0 + 1, x, r1, r2, r3, by omega, hd2, by simp, hGw6, hS6, hT6, hF6, hr6⟩
              case measure => simp [intOf]
            · have hcl : (V5.cell? ⟨tb, 2, none⟩) = some (.int .i64 r1) := q2
              go_wp2_with fail
              generalize hV6 : World.setCell V5 _ _ = V6
              have hT6 : Hid (TBox V6 tb ⟨pc, r0, x, r2, r3, []⟩ none 0) := by
                subst hV6
                refine ⟨by simpa [World.setCell] using q9, ?_, ?_, ?_, ?_, ?_, ?_⟩ <;> go_simp
              have hF6 : Hid (∀ o, V6.frozen? ⟨tb, o, none⟩ = false) := by
                subst hV6
                exact fun o => frozen_put (hFv.out o)
              have hS6 : Hid (StB V6 B (L2.drop (1 + 1))) := by
                subst hV6
                show StB _ _ _
                rw [hd1.out]
                exact hSv.out.set (by omega)
              have hGw6 : Hid (w.grownBy V6 (some B)) := by
                subst hV6
                exact grown_new hGv.out (grown_set _ _ _ _) (fun n hn => by have := HTB.out; simp at hn; omega)
              have hr6 : Hid ((0 < 1 + 1 → r0 = L2.getD 0 0) ∧ (1 < 1 + 1 → x = L2.getD 1 0) ∧ (2 < 1 + 1 → r2 = L2.getD 2 0) ∧ (3 < 1 + 1 → r3 = L2.getD 3 0)) := by
                have h0 := hr.out
                have h1 := hd0.out
                exact ⟨fun _ => h0.1 (by omega), fun _ => h1.symm, fun h => absurd h (by omega), fun h => absurd h (by omega)⟩
              clear hV6 q9 q0 q1 q2 q3 q4 q5 qf hcl hTv hFv hSv hGv
              go_roundw
              case rel => exact ⟨1 + 1, r0, x, r2, r3, by omega, hd2, by simp, hGw6, hS6, hT6, hF6, hr6⟩
              case measure => simp [intOf]
            · have hcl : (V5.cell? ⟨tb, 3, none⟩) = some (.int .i64 r2) := q3
              go_wp2_with fail
              generalize hV6 : World.setCell V5 _ _ = V6
              have hT6 : Hid (TBox V6 tb ⟨pc, r0, r1, x, r3, []⟩ none 0) := by
                subst hV6
                refine ⟨by simpa [World.setCell] using q9, ?_, ?_, ?_, ?_, ?_, ?_⟩ <;> go_simp
              have hF6 : Hid (∀ o, V6.frozen? ⟨tb, o, none⟩ = false) := by
                subst hV6
                exact fun o => frozen_put (hFv.out o)
              have hS6 : Hid (StB V6 B (L2.drop (2 + 1))) := by
                subst hV6
                show StB _ _ _
                rw [hd1.out]
                exact hSv.out.set (by omega)
              have hGw6 : Hid (w.grownBy V6 (some B)) := by
                subst hV6
                exact grown_new hGv.out (grown_set _ _ _ _) (fun n hn => by have := HTB.out; simp at hn; omega)
              have hr6 : Hid ((0 < 2 + 1 → r0 = L2.getD 0 0) ∧ (1 < 2 + 1 → r1 = L2.getD 1 0) ∧ (2 < 2 + 1 → x = L2.getD 2 0) ∧ (3 < 2 + 1 → r3 = L2.getD 3 0)) := by
                have h0 := hr.out
                have h1 := hd0.out
                exact ⟨fun _ => h0.1 (by omega), fun _ => h0.2.1 (by omega), fun _ => h1.symm, fun h => absurd h (by omega)⟩
              clear hV6 q9 q0 q1 q2 q3 q4 q5 qf hcl hTv hFv hSv hGv
              go_roundw
              case rel => exact ⟨2 + 1, r0, r1, x, r3, by omega, hd2, by simp, hGw6, hS6, hT6, hF6, hr6⟩
              case measure => simp [intOf]
            · have hcl : (V5.cell? ⟨tb, 4, none⟩) = some (.int .i64 r3) := q4
              go_wp2_with fail
              generalize hV6 : World.setCell V5 _ _ = V6
              have hT6 : Hid (TBox V6 tb ⟨pc, r0, r1, r2, x, []⟩ none 0) := by
                subst hV6
                refine ⟨by simpa [World.setCell] using q9, ?_, ?_, ?_, ?_, ?_, ?_⟩ <;> go_simp
              have hF6 : Hid (∀ o, V6.frozen? ⟨tb, o, none⟩ = false) := by
                subst hV6
                exact fun o => frozen_put (hFv.out o)
              have hS6 : Hid (StB V6 B (L2.drop (3 + 1))) := by
                subst hV6
                show StB _ _ _
                rw [hd1.out]
                exact hSv.out.set (by omega)
              have hGw6 : Hid (w.grownBy V6 (some B)) := by
                subst hV6
                exact grown_new hGv.out (grown_set _ _ _ _) (fun n hn => by have := HTB.out; simp at hn; omega)
              have hr6 : Hid ((0 < 3 + 1 → r0 = L2.getD 0 0) ∧ (1 < 3 + 1 → r1 = L2.getD 1 0) ∧ (2 < 3 + 1 → r2 = L2.getD 2 0) ∧ (3 < 3 + 1 → x = L2.getD 3 0)) := by
                have h0 := hr.out
                have h1 := hd0.out
                exact ⟨fun _ => h0.1 (by omega), fun _ => h0.2.1 (by omega), fun _ => h0.2.2.1 (by omega), fun _ => h1.symm⟩
              clear hV6 q9 q0 q1 q2 q3 q4 q5 qf hcl hTv hFv hSv hGv
              go_roundw
              case rel => exact ⟨3 + 1, r0, r1, r2, x, by omega, hd2, by simp, hGw6, hS6, hT6, hF6, hr6⟩
              case measure => simp [intOf]
          · obtain rfl : j = 4 := by omega
            have hLlen : Hid (((an : Int) :: (bn : Int) :: L2).length = L2.length + 2) := rfl
            cases hd : L2.drop 4 with
            | nil =>
              have hle := drop_end hd
              have hnx := hid (next_any B [] wr (by rw [← hd]; exact hS5.out))
              have hfin : Hid (Q shortP wr) := by show Q _ _; rw [← HP.out]; exact ThreadPost.no (takeThr_short (by rw [hLlen.out]; omega)) hG5.out
              clear hd
              go_wp2_with fail
              refine hnx.out.mono ?_
              rintro e w5 ⟨rfl, rfl⟩
              go_wp2_with fail
              exact ⟨rfl, hfin.out⟩
            | cons x L3 =>
            obtain ⟨hd0, hd1, hd2⟩ := drop_head hd
            obtain ⟨nn, hnn, rfl⟩ : ∃ n : Nat, n ≤ 255 ∧ x = n := by
              refine hby x (List.mem_cons_of_mem _ (List.mem_cons_of_mem _ ?_))
              have : x ∈ L2.drop 4 := by rw [hd]; exact List.mem_cons_self
              exact List.mem_of_mem_drop this
            have hL3 : Hid (L3.length + 5 = L2.length) := by have h1 := congrArg List.length hd1; rw [List.length_drop] at h1; show _ = _; omega
            have hnx := hid (next_any B ((nn : Int) :: L3) wr (by rw [← hd]; exact hS5.out))
            have hd0 := hid hd0
            have hd1 := hid hd1
            clear hd
            go_wp2_with fail
            refine hnx.out.mono ?_
            rintro e V5 ⟨rfl, hSv, hG6, hz6⟩
            have hTv := hid (hT5.out.grown hG6 (by simp; omega))
            have hFv : Hid (∀ o, V5.frozen? ⟨tb, o, none⟩ = false) := fun o => (World.frozen?_of_block (w := wr) (a := ⟨_, o, none⟩) (hG6.block _ hT5.out.lt (by simp; omega))).trans (hF5.out o)
            have hGv := hid (grown_trans hG5.out hG6)
            have hSv := hid hSv
            have htbv := hTv.out.lt
            clear hG6 hz6 hnx hG5 hS5 hT5 hF5
            obtain ⟨wo, rfl⟩ : ∃ wo : World, wo = wr := ⟨_, rfl⟩
            go_wp2_with fail
            go_loopw [4, 26] (fun _ i wr => ∃ (q : Nat) (ar : Option Addr) (kr : Nat), q ≤ nn ∧ 2 * q ≤ L3.length ∧ i = .int .i64 q ∧ Hid (w.grownBy wr (some B)) ∧ Hid (StB wr B (L3.drop (2 * q))) ∧ Hid (TBox wr tb ⟨pc, r0, r1, r2, r3, pairsL q L3⟩ ar kr) ∧ Hid (∀ o, wr.frozen? ⟨tb, o, none⟩ = false) ∧ Hid (wr.ownsRow (tb + 1) 66 2 (.slice ar q kr) q ((pairsL q L3).flatMap enC))) (fun _ i _ => nn - (intOf i).toNat)
            case atStart => exact ⟨0, none, 0, Nat.zero_le _, Nat.zero_le _, rfl, hGv.out, hSv.out, hTv.out, hFv.out, World.ownsRow_nil _ _ _ _⟩
            case round =>
              obtain ⟨q, ar, kr, hq, hql, rfl, hG7, hS7, hT7, hF7, hO7⟩ := hrel
              have hfew : Hid (L3.length < 2 * nn → takeThr ((an : Int) :: (bn : Int) :: L2) = none) := fun h => takeThr_few (n := nn) (by show L2.getD 4 0 = _; exact hd0.out) (by rw [hLlen.out]; have := hL3.out; omega)
              by_cases hqn : q < nn
              · cases hd : L3.drop (2 * q) with
                | nil =>
                  have hle := drop_end hd
                  have hnx := hid (next_any B [] wr (by rw [← hd]; exact hS7.out))
                  have hfin : Hid (Q shortP wr) := by show Q _ _; rw [← HP.out]; exact ThreadPost.no (hfew.out (by omega)) hG7.out
                  clear hd
                  go_wp2_with fail
                  refine hnx.out.mono ?_
                  rintro e w5 ⟨rfl, rfl⟩
                  go_wp2_with fail
                  exact ⟨rfl, hfin.out⟩
                | cons v L4 =>
                obtain ⟨he0, he1, he2⟩ := drop_head hd
                have hnx := hid (next_any B (v :: L4) wr (by rw [← hd]; exact hS7.out))
                have he0 := hid he0
                have he1 := hid he1
                clear hd
                go_wp2_with fail
                refine hnx.out.mono ?_
                rintro e V8 ⟨rfl, hS8, hG8, hz8⟩
                have hT8 := hid (hT7.out.grown hG8 (by simp; omega))
                have hF8 : Hid (∀ o, V8.frozen? ⟨tb, o, none⟩ = false) := fun o => (World.frozen?_of_block (w := wr) (a := ⟨_, o, none⟩) (hG8.block _ hT7.out.lt (by simp; omega))).trans (hF7.out o)
                have hGw8 := hid (grown_trans hG7.out hG8)
                have hO8 := hid (hO7.out.kept hG8 (.inr (fun e => by have := (hO7.out.lt _ e).1; omega)))
                have hS8 := hid hS8
                have hpl := hid (pairsL_len q L3)
                obtain ⟨p9, -, -, -, -, -, p5⟩ := hT8.out
                simp only at p5
                rw [hpl.out] at p5
                have p6 := hF8.out 5
                clear hnx hG8 hz8 hG7 hS7 hT7 hF7 hO7
                go_wp2_with fail
                cases L4 with
                | nil =>
                  have hle : L3.length ≤ 2 * q + 1 := drop_end he1.out
                  have hn := hid (next_any B [] V8.drew hS8.out.drew)
                  have hfin : Hid (Q shortP V8.drew) := by show Q _ _; rw [← HP.out]; exact ThreadPost.no (hfew.out (by omega)) (grown_drew hGw8.out)
                  go_region_law (first
                    | (go_simp; go_at_call 49; (with_reducible refine hn.out.mono ?_); intro e w3 hp; cases e;
                       (case' panicked => (have h1 := hp.1; have h2 := hp.2; cases h1; subst h2; exact ⟨rfl, hfin.out⟩));
                       (case' outgrown => (exact absurd hp.1 (by simp)));
                       have HX : Hid False := (by cases hp.1);
                       clear hp;
                       obtain ⟨n, hv⟩ : ∃ n : Int, ‹Value› = .int .i64 n := HX.out.elim;
                       subst hv;
                       have z5 : w3.cell? ⟨tb, 5, none⟩ = some (.slice ar q kr) := HX.out.elim;
                       have z6 : w3.frozen? ⟨tb, 5, none⟩ = false := HX.out.elim;
                       have z9 : tb < w3.heap.size := HX.out.elim;
                       have hO9 : Hid (w3.ownsRow (tb + 1) 66 2 (.slice ar q kr) q ((pairsL q L3).flatMap enC)) := HX.out.elim;
                       have hr9 : Hid ((Value.slice ar q kr).ownBlock ≠ some tb) := HX.out.elim)
                    | (refine step_en (base := tb + 1) (.tmp 31) (.tmp 36) (.slice ar q kr) q ((pairsL q L3).flatMap enC) 1 [.int .i64 v, .int .i64 n] ?_ ?_ ?_ ?_ ?_ ?_ ?_ ?_ ?_;
                       (focus rfl); (focus rfl); (focus rfl); (focus exact hO9.out.alloc _); (focus (first | exact ⟨_, _, rfl, src_new rfl⟩ | exact ⟨_, _, rfl, src_new_d rfl⟩)); (focus exact one_cells); (focus omega); (focus (simp; omega));
                       intro v6 w6 hown6 hg6 hat6;
                       have hg9 := hid (grown_pre' hg6);
                       have c5 : w6.cell? ⟨tb, 5, none⟩ = some (.slice ar q kr) := (World.cell?_of_block (w := w3) (a := ⟨tb, 5, none⟩) (hg9.out.block tb z9 (fun e => hr9.out e.symm))).trans z5;
                       have f5 : w6.frozen? ⟨tb, 5, none⟩ = false := (World.frozen?_of_block (w := w3) (a := ⟨tb, 5, none⟩) (hg9.out.block tb z9 (fun e => hr9.out e.symm))).trans z6;
                       have hO6 := hid hown6;
                       clear hg6 hat6 hown6;
                       obtain ⟨a6, c6, rfl⟩ := own_at3 hO6.out)
                    | fail)
                  all_goals exact HX.out.elim
                | cons m L5 =>
                obtain ⟨hf0, hf1, hf2⟩ := drop_head he1.out
                have hn := hid (next_any B (m :: L5) V8.drew hS8.out.drew)
                go_region_law (first
                    | (go_simp; go_at_call 49; (with_reducible refine hn.out.mono ?_); rintro e w3 ⟨rfl, hS9, hG9, hz9⟩;
                       have hG9d : Hid (V8.grownBy w3 (some B)) := ⟨hG9.os, hG9.tape, hG9.output, hG9.size, hG9.block⟩;
                       have hT9 := hid (hT8.out.grown hG9d.out (by simp; omega));
                       have hF9 : Hid (∀ o, w3.frozen? ⟨tb, o, none⟩ = false) := fun o => (World.frozen?_of_block (w := V8) (a := ⟨_, o, none⟩) (hG9d.out.block _ p9 (by simp; omega))).trans (hF8.out o);
                       have hGw9 := hid (grown_trans hGw8.out hG9d.out);
                       have hO9 := hid (hO8.out.kept hG9d.out (.inr (fun e => by have := (hO8.out.lt _ e).1; omega)));
                       have hS9 := hid hS9;
                       have hr9 : Hid ((Value.slice ar q kr).ownBlock ≠ some tb) := fun e => by have := (hO9.out.lt _ e).1; omega;
                       clear hG9 hz9 hG9d;
                       obtain ⟨z9, -, -, -, -, -, z5⟩ := hT9.out;
                       simp only at z5;
                       rw [hpl.out] at z5;
                       have z6 := hF9.out 5)
                    | (refine step_en (base := tb + 1) (.tmp 31) (.tmp 36) (.slice ar q kr) q ((pairsL q L3).flatMap enC) 1 [.int .i64 v, .int .i64 m] ?_ ?_ ?_ ?_ ?_ ?_ ?_ ?_ ?_;
                       (focus rfl); (focus rfl); (focus rfl); (focus exact hO9.out.alloc _); (focus (first | exact ⟨_, _, rfl, src_new rfl⟩ | exact ⟨_, _, rfl, src_new_d rfl⟩)); (focus exact one_cells); (focus omega); (focus (simp; omega));
                       intro v6 w6 hown6 hg6 hat6;
                       have hg9 := hid (grown_pre' hg6);
                       have c5 : w6.cell? ⟨tb, 5, none⟩ = some (.slice ar q kr) := (World.cell?_of_block (w := w3) (a := ⟨tb, 5, none⟩) (hg9.out.block tb z9 (fun e => hr9.out e.symm))).trans z5;
                       have f5 : w6.frozen? ⟨tb, 5, none⟩ = false := (World.frozen?_of_block (w := w3) (a := ⟨tb, 5, none⟩) (hg9.out.block tb z9 (fun e => hr9.out e.symm))).trans z6;
                       have hO6 := hid hown6;
                       clear hg6 hat6 hown6;
                       obtain ⟨a6, c6, rfl⟩ := own_at3 hO6.out)
                    | fail)
                all_goals
                  have hGn : Hid (w.grownBy (w6.setCell ⟨tb, 5, none⟩ (.slice a6 (q + 1) c6)) (some B)) := grown_new (grown_new hGw9.out hg9.out (fun n hn => by have := (hO9.out.lt n hn).1; have := HTB.out; omega)) (grown_set _ _ _ _) (fun n hn => by have := HTB.out; simp at hn; omega)
                  have hSn : Hid (StB (w6.setCell ⟨tb, 5, none⟩ (.slice a6 (q + 1) c6)) B (L3.drop (2 * (q + 1)))) := by
                    show StB _ _ _
                    rw [show 2 * (q + 1) = 2 * q + 1 + 1 by omega, hf1]
                    exact (hS9.out.grown hg9.out (fun e => by have := (hO9.out.lt _ e).1; omega)).set (by omega)
                  have hTn : Hid (TBox (w6.setCell ⟨tb, 5, none⟩ (.slice a6 (q + 1) c6)) tb ⟨pc, r0, r1, r2, r3, pairsL (q + 1) L3⟩ a6 c6) := TBox.put5 (hT9.out.grown hg9.out hr9.out) _ _ _ _ (pairsL_len _ _)
                  have hFn : Hid (∀ o, (w6.setCell ⟨tb, 5, none⟩ (.slice a6 (q + 1) c6)).frozen? ⟨tb, o, none⟩ = false) := fun o => frozen_put ((World.frozen?_of_block (w := w3) (a := ⟨tb, o, none⟩) (hg9.out.block tb z9 (fun e => hr9.out e.symm))).trans (hF9.out o))
                  have hOn : Hid ((w6.setCell ⟨tb, 5, none⟩ (.slice a6 (q + 1) c6)).ownsRow (tb + 1) 66 2 (.slice a6 (q + 1) c6) (q + 1) ((pairsL (q + 1) L3).flatMap enC)) := by
                    show World.ownsRow _ _ _ _ _ _ _
                    rw [pairsL_snoc, he0.out, hf0, List.flatMap_append]
                    exact ownsRow_setCell_below hO6.out (a := ⟨tb, 5, none⟩) (by show tb < _; omega) _
                  clear hg9 c5 f5 hO6 hT9 hF9 hO9 hS9 hGw9 hr9 z5 z6 z9 p5 p6 hn hf0 hf1
                  go_wp2_with fail
                  go_roundw
                  case rel => exact ⟨q + 1, a6, c6, by omega, by omega, by simp, hGn, hSn, hTn, hFn, hOn⟩
                  case measure => simp [intOf]; omega
              · obtain rfl : q = nn := by omega
                obtain ⟨y9, y0, y1, y2, y3, y4, y5⟩ := hT7.out
                simp only at y0 y1 y2 y3 y4 y5
                have hpl := hid (pairsL_len q L3)
                rw [hpl.out] at y5
                have yf := hF7.out
                obtain ⟨W9, e9, g9, z9, x0, x1, x2, x3, x4, x5⟩ := six (a := .int .i64 pc) (b := .int .i64 r0) (c := .int .i64 r1) (d := .int .i64 r2) (e := .int .i64 r3) (f := .slice ar q kr) y0 y1 y2 y3 y4 y5
                have hfin : Hid (Q (.returned (.agg #[.int .i64 pc, .int .i64 r0, .int .i64 r1, .int .i64 r2, .int .i64 r3, .slice ar q kr])) W9) := by
                  show Q _ _
                  rw [← HP.out]
                  unfold ThreadPost
                  rw [takeThr_ok (n := q) (by show L2.getD 4 0 = _; exact hd0.out) (by rw [hLlen.out]; have := hL3.out; omega)]
                  have h0 := hr.out
                  obtain ⟨ae, ce, ee, hen9⟩ := EnIn.of_own (l := pairsL q L3) (by rw [pairsL_len]; exact hO7.out)
                  rw [pairsL_len] at ee hen9
                  obtain ⟨rfl, rfl⟩ : ar = ae ∧ kr = ce := by simpa using ee
                  have hdr : ((an : Int) :: (bn : Int) :: L2).drop 7 = L3 := hd1.out
                  have hdr2 : ((an : Int) :: (bn : Int) :: L2).drop (7 + 2 * q) = L3.drop (2 * q) := by rw [← List.drop_drop, hdr]
                  refine ⟨ar, kr, ?_, ?_, ?_, ?_⟩
                  · rw [hdr]
                    show _ = Ending.returned (.agg #[.int .i64 (256 * (an : Int) + (bn : Int)), .int .i64 (L2.getD 0 0), .int .i64 (L2.getD 1 0), .int .i64 (L2.getD 2 0), .int .i64 (L2.getD 3 0), .slice ar (pairsL q L3).length kr])
                    rw [HPC.out, hpl.out, h0.1 (by omega), h0.2.1 (by omega), h0.2.2.1 (by omega), h0.2.2.2 (by omega)]
                  · rw [hdr]
                    show EnIn _ _ _ (pairsL q L3).length _ _
                    rw [hpl.out]
                    have htb := HTB.out
                    refine (hen9.keep fun k o hk => World.cell?_of_block (w := wr) (a := ⟨k, o, none⟩) (g9.block k hk.2 (by have := hk.1; simp; omega))).widen fun k hk => ⟨by have h1 : tb + 1 ≤ k := hk.1; omega, by rw [z9]; exact hk.2⟩
                  · show StB _ _ (((an : Int) :: (bn : Int) :: L2).drop (7 + 2 * q))
                    rw [hdr2]
                    exact hS7.out.grown g9 (by simp; omega)
                  · exact grown_new hG7.out g9 (fun n hn => by have := HTB.out; simp at hn; omega)
                have E9 := hid e9
                clear e9 g9 z9
                go_wp2_with fail
                rw [← E9.out]
                refine bodyPost_ret ?_ rfl hfin.out
                simp [results, Tryz.results29, go_sem, x0, x1, x2, x3, x4, x5]
end Go.Proofs.YtekmcoflagajkaaGreatDoor
