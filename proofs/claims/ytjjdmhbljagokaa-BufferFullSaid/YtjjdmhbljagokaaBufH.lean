/- The program's Take. -/
import Derived.Test.YtjjdmhbljagokaaBufC
import Derived.Test.YtjjdmhbljagokaaBufF
import Derived.Test.YtjjdmhbljagokaaBufG
namespace Go.Proofs.Ytjjdmhbljagokaa
open Go.RowKit

theorem take_fold_f (v : Int) : ∀ (l : List (Int × Int)) (x : Int × Int) (o : List (Int × Int)), (∀ j (hj : j < l.length), l[j].1 ≠ v) → l.foldl (takeStep v) (x, o, false) = (x, o ++ l, false)
  | [], x, o, _ => by simp
  | y :: l, x, o, h => by
    have h0 : (y.1 == v) = false := by have := h 0 (by simp); simpa using this
    have := take_fold_f v l x (o ++ [y]) (fun j hj => by have := h (j + 1) (by simpa using hj); simpa using this)
    simp only [List.foldl_cons, takeStep, h0, Bool.and_false]
    simpa using this
theorem take_fold_t (v : Int) : ∀ (l : List (Int × Int)) (x : Int × Int) (o : List (Int × Int)), l.foldl (takeStep v) (x, o, true) = (x, o ++ l, true)
  | [], x, o => by simp
  | y :: l, x, o => by
    have := take_fold_t v l x (o ++ [y])
    simp only [List.foldl_cons, takeStep, Bool.not_true, Bool.false_and]
    simpa using this
theorem takeL_none {v : Int} {l : List (Int × Int)} (h : ∀ j (hj : j < l.length), l[j].1 ≠ v) : takeL v l = ((0, 0), l, false) := by
  unfold takeL
  rw [take_fold_f v l _ _ h]
  simp
theorem takeL_hit {v : Int} {l : List (Int × Int)} {k : Nat} (hk : k < l.length) (hv : l[k].1 = v) (h : ∀ j (hj : j < l.length), j < k → l[j].1 ≠ v) : takeL v l = (l[k], l.take k ++ l.drop (k + 1), true) := by
  have e : l = l.take k ++ l[k] :: l.drop (k + 1) := by simp
  have hv1 : (l[k].1 == v) = true := by simpa using hv
  have h1 : takeL v l = takeL v (l.take k ++ l[k] :: l.drop (k + 1)) := by rw [← e]
  rw [h1]
  unfold takeL
  rw [List.foldl_append, List.foldl_cons, take_fold_f v (l.take k) _ _ (fun j hj => by
    rw [List.length_take] at hj
    rw [List.getElem_take]
    exact h j (by omega) (by omega))]
  simp only [takeStep, hv1, Bool.and_true, Bool.not_false, if_true]
  rw [take_fold_t]
  simp
/-- Either a store to the variable is first at a place, or there is none. -/
theorem first_or (v : Int) (l : List (Int × Int)) : (∃ k, ∃ hk : k < l.length, l[k].1 = v ∧ ∀ j (hj : j < l.length), j < k → l[j].1 ≠ v) ∨ ∀ j (hj : j < l.length), l[j].1 ≠ v := by
  by_cases h : l.findIdx (fun y => y.1 == v) < l.length
  · left
    refine ⟨_, h, ?_, fun j hj hlt => ?_⟩
    · simpa using List.findIdx_getElem (w := h)
    · simpa using List.not_of_lt_findIdx hlt
  · right
    have := List.findIdx_eq_length.1 (Nat.le_antisymm List.findIdx_le_length (Nat.le_of_not_lt h))
    intro j hj
    simpa using this l[j] (List.getElem_mem hj)

set_option maxHeartbeats 4000000 in
theorem take_any (a : Option Addr) (n cap : Nat) (l : List (Int × Int)) (v : Int) (w : World) (hl : EnIn w (In_ w) a n cap l) (hlen : l.length ≤ 1000) :
    Calls Try.prog 12 #[.slice a n cap, .int .i64 v] w (TakePost w (takeL v l)) := by
  have hn := hl.1
  subst hn
  have hcap := hl.2.le
  have hmx := hl.2.mx
  unfold maxLen at hmx
  obtain ⟨W0, hW⟩ : ∃ W0, W0 = (w.alloc (.cells #[.int .i64 v] 3)).alloc (.cells #[.int .i64 0, .int .i64 0] 26) := ⟨_, rfl⟩
  have hB : Below w.heap.size w W0 := by subst hW; exact ((Below.refl _ _).alloc (Nat.le_refl _) _).alloc (by simp) _
  have z1 : w.heap.size + 2 = W0.heap.size := by subst hW; simp
  have hc : W0.cell? ⟨w.heap.size, 0, none⟩ = some (.int .i64 v) := by subst hW; go_simp
  have r0 : W0.cell? ⟨w.heap.size + 1, 0, none⟩ = some (.int .i64 0) := by subst hW; go_simp
  have r1 : W0.cell? ⟨w.heap.size + 1, 1, none⟩ = some (.int .i64 0) := by subst hW; go_simp
  have f0 : W0.frozen? ⟨w.heap.size + 1, 0, none⟩ = false := by subst hW; go_simp
  have f1 : W0.frozen? ⟨w.heap.size + 1, 1, none⟩ = false := by subst hW; go_simp
  have hl0 := (Kp.of hB).en hl
  rcases first_or v l with ⟨k, hk, hv, hno⟩ | hno
  · have ht := takeL_hit hk hv hno
    have hi := idxL_hit hk hv hno
    have Hv := hid hv
    have ht := hid ht
    clear hno hv
    have k0 : (0 : Int) ≤ k := by omega
    have k1 : (k : Int) < l.length := by omega
    have kw : IntKind.i64.wrap ((k : Int) + 1) = k + 1 := IntWalk.i64_in _ (by omega)
    go_enter Try.func12, Try.ntmps12
    go_wp2_with fail
    rw [← hW]
    refine (index_any a l.length cap l v w.heap.size W0 hl0 (by omega) hc).mono ?_
    rw [hi]
    rintro e w1 ⟨rfl, hb1⟩
    have r0' : w1.cell? ⟨w.heap.size + 1, 0, none⟩ = some (.int .i64 0) := (hb1.cell (p := ⟨_, _, none⟩) (by simp; omega)).trans r0
    have r1' : w1.cell? ⟨w.heap.size + 1, 1, none⟩ = some (.int .i64 0) := (hb1.cell (p := ⟨_, _, none⟩) (by simp; omega)).trans r1
    have f0' : w1.frozen? ⟨w.heap.size + 1, 0, none⟩ = false := (hb1.frozen (p := ⟨_, _, none⟩) (by simp; omega)).trans f0
    have f1' : w1.frozen? ⟨w.heap.size + 1, 1, none⟩ = false := (hb1.frozen (p := ⟨_, _, none⟩) (by simp; omega)).trans f1
    have HB : Hid (Below w.heap.size w w1) := hB.trans (hb1.mono hB.size)
    have z2 : w.heap.size + 2 ≤ w1.heap.size := by have := hb1.size; omega
    have hl1 := hid ((Kp.of HB.out).en hl)
    obtain ⟨b, off, rfl, hbb, e0, e1⟩ := hl1.out.at_ k hk
    have hbl := hbb.lt
    clear hc r0 r1 f0 f1 hB hb1 hW hl0 hl z1 hi
    go_wp2_with fail
    go_region_with (first
      | (go_at_call 25
         with_reducible refine (clone_any ⟨b, off, none⟩ l.length cap l _ ?_ hlen (by omega)).mono ?_
         (focus exact (Kp.start w1).en hl1.out)
         rintro e w2 ⟨g, cap2, rfl, hg, hfa, hb2⟩
         have hg' : w1.heap.size ≤ g := hg
         have q0 : w2.cell? ⟨w.heap.size + 1, 0, none⟩ = some (.int .i64 0) := (hb2.cell (p := ⟨_, _, none⟩) (by show w.heap.size + 1 < w1.heap.size; omega)).trans r0'
         have q1 : w2.cell? ⟨w.heap.size + 1, 1, none⟩ = some (.int .i64 0) := (hb2.cell (p := ⟨_, _, none⟩) (by show w.heap.size + 1 < w1.heap.size; omega)).trans r1'
         have t0 : w2.frozen? ⟨w.heap.size + 1, 0, none⟩ = false := (hb2.frozen (p := ⟨_, _, none⟩) (by show w.heap.size + 1 < w1.heap.size; omega)).trans f0'
         have t1 : w2.frozen? ⟨w.heap.size + 1, 1, none⟩ = false := (hb2.frozen (p := ⟨_, _, none⟩) (by show w.heap.size + 1 < w1.heap.size; omega)).trans f1'
         have d0 : w2.cell? ⟨b, off + k * 2, none⟩ = some (.int .i64 l[k].1) := (hb2.cell (p := ⟨_, _, none⟩) hbl).trans e0
         have d1 : w2.cell? ⟨b, off + k * 2 + 1, none⟩ = some (.int .i64 l[k].2) := (hb2.cell (p := ⟨_, _, none⟩) hbl).trans e1)
      | (go_at_call 24
         with_reducible refine (delete_any g cap2 l k _ hk hfa.lt hfa.le hfa.mx hfa.cells hfa.free).mono ?_
         rintro e w3 ⟨rfl, hen, hb3⟩
         have q0' : w3.cell? ⟨w.heap.size + 1, 0, none⟩ = some (.int .i64 0) := (hb3.cell (p := ⟨_, _, none⟩) (by show w.heap.size + 1 < g; omega)).trans q0
         have q1' : w3.cell? ⟨w.heap.size + 1, 1, none⟩ = some (.int .i64 0) := (hb3.cell (p := ⟨_, _, none⟩) (by show w.heap.size + 1 < g; omega)).trans q1
         have t0' : w3.frozen? ⟨w.heap.size + 1, 0, none⟩ = false := (hb3.frozen (p := ⟨_, _, none⟩) (by show w.heap.size + 1 < g; omega)).trans t0
         have t1' : w3.frozen? ⟨w.heap.size + 1, 1, none⟩ = false := (hb3.frozen (p := ⟨_, _, none⟩) (by show w.heap.size + 1 < g; omega)).trans t1
         have d0' : w3.cell? ⟨b, off + k * 2, none⟩ = some (.int .i64 l[k].1) := (hb3.cell (p := ⟨_, _, none⟩) (by show b < g; omega)).trans d0
         have d1' : w3.cell? ⟨b, off + k * 2 + 1, none⟩ = some (.int .i64 l[k].2) := (hb3.cell (p := ⟨_, _, none⟩) (by show b < g; omega)).trans d1)
      | fail)
    all_goals
      have hB3 : Below w.heap.size w w3 := HB.out.drew.trans ((hb2.mono (by show w.heap.size ≤ w1.heap.size; omega)).trans (hb3.mono (by omega)))
      have hgw : g < w3.heap.size := Nat.lt_of_lt_of_le hfa.lt hb3.size
      have hgn : w.heap.size + 1 ≠ g := by omega
      have hb4 : Below w.heap.size w ((w3.setCell ⟨w.heap.size + 1, 0, none⟩ (.int .i64 l[k].1)).setCell ⟨w.heap.size + 1, 1, none⟩ (.int .i64 l[k].2)) := (hB3.setCell (by simp) _).setCell (by simp) _
      have hfin : Hid (TakePost w (takeL v l) (.returned (.tuple #[.agg #[.int .i64 l[k].1, .int .i64 l[k].2], .slice (some ⟨g, 0, none⟩) (l.length - 1) cap2, .bool true])) ((w3.setCell ⟨w.heap.size + 1, 0, none⟩ (.int .i64 l[k].1)).setCell ⟨w.heap.size + 1, 1, none⟩ (.int .i64 l[k].2))) := by
        rw [ht.out, hen.1]
        refine ⟨some ⟨g, 0, none⟩, cap2, rfl, ?_, hb4⟩
        have hen2 := hen
        rw [hen2.1] at hen2
        refine (hen2.keep (w' := (w3.setCell ⟨w.heap.size + 1, 0, none⟩ (.int .i64 l[k].1)).setCell ⟨w.heap.size + 1, 1, none⟩ (.int .i64 l[k].2)) fun b o hb => ?_).widen fun b hb => ?_
        · rw [World.cell?_setCell_other _ _ _ _ (by first | (simp; done) | (simp; omega)), World.cell?_setCell_other _ _ _ _ (by first | (simp; done) | (simp; omega))]
        · show b < _
          subst hb
          simpa using hgw
      clear hen ht hB3 hb4 hb2 hb3 hl1 hfa HB
      go_wp2_with fail
      refine bodyPost_ret (v := .tuple #[.agg #[.int .i64 l[k].1, .int .i64 l[k].2], .slice (some ⟨g, 0, none⟩) (l.length - 1) cap2, .bool true]) ?_ rfl hfin.out
      have c0 : ((w3.setCell ⟨w.heap.size + 1, 0, none⟩ (.int .i64 l[k].1)).setCell ⟨w.heap.size + 1, 1, none⟩ (.int .i64 l[k].2)).cell? ⟨w.heap.size + 1, 0, none⟩ = some (.int .i64 l[k].1) := by go_simp
      have c1 : ((w3.setCell ⟨w.heap.size + 1, 0, none⟩ (.int .i64 l[k].1)).setCell ⟨w.heap.size + 1, 1, none⟩ (.int .i64 l[k].2)).cell? ⟨w.heap.size + 1, 1, none⟩ = some (.int .i64 l[k].2) := by go_simp
      generalize World.setCell (World.setCell w3 _ _) _ _ = W2 at c0 c1 ⊢
      simp [results, Try.results12, go_sem, c0, c1]
  · have ht := hid (takeL_none hno)
    have hi := idxL_none hno
    clear hno
    go_enter Try.func12, Try.ntmps12
    go_wp2_with fail
    rw [← hW]
    refine (index_any a l.length cap l v w.heap.size W0 hl0 (by omega) hc).mono ?_
    rw [hi]
    rintro e w1 ⟨rfl, hb1⟩
    have hK1 := hid (Kp.of hb1)
    have r0' : w1.cell? ⟨w.heap.size + 1, 0, none⟩ = some (.int .i64 0) := (hb1.cell (p := ⟨_, _, none⟩) (by simp; omega)).trans r0
    have r1' : w1.cell? ⟨w.heap.size + 1, 1, none⟩ = some (.int .i64 0) := (hb1.cell (p := ⟨_, _, none⟩) (by simp; omega)).trans r1
    have f0' : w1.frozen? ⟨w.heap.size + 1, 0, none⟩ = false := (hb1.frozen (p := ⟨_, _, none⟩) (by simp; omega)).trans f0
    have f1' : w1.frozen? ⟨w.heap.size + 1, 1, none⟩ = false := (hb1.frozen (p := ⟨_, _, none⟩) (by simp; omega)).trans f1
    have HB : Hid (Below w.heap.size w w1) := hB.trans (hb1.mono hB.size)
    clear hc r0 r1 f0 f1 hB hb1 hW hl0
    go_wp2_with fail
    have hb2 : Below w.heap.size w ((w1.setCell ⟨w.heap.size + 1, 0, none⟩ (.int .i64 0)).setCell ⟨w.heap.size + 1, 1, none⟩ (.int .i64 0)) := (HB.out.setCell (by simp) _).setCell (by simp) _
    have hfin : Hid (TakePost w (takeL v l) (.returned (.tuple #[.agg #[.int .i64 0, .int .i64 0], .slice a l.length cap, .bool false])) ((w1.setCell ⟨w.heap.size + 1, 0, none⟩ (.int .i64 0)).setCell ⟨w.heap.size + 1, 1, none⟩ (.int .i64 0))) := by
      rw [ht.out]
      exact ⟨a, cap, rfl, (Kp.of hb2).en hl, hb2⟩
    refine bodyPost_ret (v := .tuple #[.agg #[.int .i64 0, .int .i64 0], .slice a l.length cap, .bool false]) ?_ rfl hfin.out
    have c0 : ((w1.setCell ⟨w.heap.size + 1, 0, none⟩ (.int .i64 0)).setCell ⟨w.heap.size + 1, 1, none⟩ (.int .i64 0)).cell? ⟨w.heap.size + 1, 0, none⟩ = some (.int .i64 0) := by go_simp
    have c1 : ((w1.setCell ⟨w.heap.size + 1, 0, none⟩ (.int .i64 0)).setCell ⟨w.heap.size + 1, 1, none⟩ (.int .i64 0)).cell? ⟨w.heap.size + 1, 1, none⟩ = some (.int .i64 0) := by go_simp
    generalize World.setCell (World.setCell w1 _ _) _ _ = W2 at c0 c1 ⊢
    simp [results, Try.results12, go_sem, c0, c1]
end Go.Proofs.Ytjjdmhbljagokaa
