/- Code whose threads lie in blocks of their own: one thing of it is written. -/
import Derived.Test.YtcgpobeidlimkaaGreatDoorBunC
import Derived.Test.YtcgpobeidlimkaaGreatDoorBunS
import Derived.Test.YtcgpobeidlimkaaGreatDoorBunX
import Derived.Test.YtcgpobeidlimkaaGreatDoorCmp
namespace Go.Proofs.YtcgpobeidlimkaaGreatDoor
open Go.RowKit

/-- One thread for another. -/
theorem ThsO.swap {w' : World} {B : Nat} {S : Nat → Prop} {v u' : Value} {LL : List (List Ins × Value)} {L' : List Ins} {k : Nat} (hk : k < LL.length)
    (h1 : w'.ownsRow B 43 1 v LL.length ((LL.map (·.2)).set k u')) (h2 : ∀ i (hi : i < LL.length), i ≠ k → InsO w' B S LL[i].2 LL[i].1) (hI : InsO w' B S u' L')
    (h3 : ∀ y ∈ LL, y.2.ownBlock = none ∨ y.2.ownBlock ≠ v.ownBlock) (h3' : u'.ownBlock = none ∨ u'.ownBlock ≠ v.ownBlock)
    (h4 : LL.Pairwise fun x y => x.2.ownBlock = none ∨ x.2.ownBlock ≠ y.2.ownBlock) (h4' : ∀ i (hi : i < LL.length), i ≠ k → LL[i].2.ownBlock = none ∨ LL[i].2.ownBlock ≠ u'.ownBlock) :
    ThsO w' B S v ((LL.map (·.1)).set k L') := by
  have hu' : ∀ {q : Value}, (q.ownBlock = none ∨ q.ownBlock ≠ u'.ownBlock) → (u'.ownBlock = none ∨ u'.ownBlock ≠ q.ownBlock) := fun {q} h => by
    rcases hq : u'.ownBlock with _ | b
    · exact .inl rfl
    · right
      intro e
      rcases h with h | h
      · rw [h] at e; cases e
      · exact h (by rw [hq, ← e])
  refine ⟨LL.set k (L', u'), by rw [List.map_set], by rw [List.length_set, List.map_set]; exact h1, fun y hy => ?_, fun y hy => ?_, ?_⟩
  · obtain ⟨i, hi, rfl⟩ := List.mem_iff_getElem.1 hy
    by_cases hik : i = k
    · subst hik; simpa using hI
    · rw [List.getElem_set_ne (fun e => hik e.symm)]
      exact h2 i (by simpa using hi) hik
  · rcases List.mem_or_eq_of_mem_set hy with hy | rfl
    · exact h3 y hy
    · exact h3'
  · rw [List.pairwise_iff_getElem]
    intro i j hi hj hij
    have hi' : i < LL.length := by simpa using hi
    have hj' : j < LL.length := by simpa using hj
    by_cases hik : i = k
    · subst hik
      rw [List.getElem_set_self, List.getElem_set_ne (by omega)]
      exact hu' (h4' j hj' (by omega))
    · rw [List.getElem_set_ne (fun e => hik e.symm)]
      by_cases hjk : j = k
      · subst hjk
        rw [List.getElem_set_self]
        exact h4' i hi' hik
      · rw [List.getElem_set_ne (fun e => hjk e.symm)]
        exact List.pairwise_iff_getElem.1 h4 i j hi' hj' hij

/-- A thread of the code: where its row is kept, and what becomes of the code when it is written. -/
theorem ThsO.thread {w : World} {B : Nat} {S : Nat → Prop} {v : Value} {T : List (List Ins)} (h : ThsO w B S v T) (hS : ∀ b, S b → b < B) (k : Nat) (hk : k < T.length) :
    ∃ g cap a c, v = .slice (some ⟨g, 0, none⟩) T.length cap ∧ T.length ≤ cap ∧ cap ≤ maxLen ∧ B ≤ g ∧ g < w.heap.size ∧ w.cell? ⟨g, k, none⟩ = some (.slice a T[k].length c) ∧ w.frozen? ⟨g, k, none⟩ = false ∧ InsO w B S (.slice a T[k].length c) T[k] ∧
      (∀ gk w' L', a = some ⟨gk, 0, none⟩ → w.grownBy w' (some gk) → InsO w' B S (.slice a T[k].length c) L' → ThsO w' B S v (T.set k L')) ∧
      (∀ (o : Obj) L' u', InsO (w.alloc o) B S u' L' → u'.ownBlock = some w.heap.size → ThsO ((w.alloc o).setCell ⟨g, k, none⟩ u') B S v (T.set k L')) := by
  obtain ⟨LL, rfl, h1, h2, h3, h4⟩ := h
  have hk' : k < LL.length := by simpa using hk
  obtain ⟨a0, c0, rfl⟩ := own_at h1
  obtain ⟨g, cap, hv⟩ : ∃ g cap, Value.slice a0 LL.length c0 = .slice (some ⟨g, 0, none⟩) LL.length cap := by
    have h' := h1
    obtain ⟨_, h⟩ := h'
    rcases h with ⟨e, h0⟩ | ⟨g, cap', cur, e, -⟩
    · have h0' : LL.length = 0 := h0
      omega
    · exact ⟨g, cap', e⟩
  rw [hv] at h1 h3 ⊢
  clear hv a0 c0
  obtain ⟨a, c, hu⟩ := (h2 LL[k] (List.getElem_mem hk')).sl
  have hc := h1.cellAt k (by omega)
  have hz : LL.length ≤ cap ∧ cap ≤ maxLen := by
    have h' := h1
    obtain ⟨_, h⟩ := h'
    rcases h with ⟨e, -⟩ | ⟨g', cap', cur, e, -, -, hle, hcm, -⟩
    · cases e
    · simp only [Value.slice.injEq] at e
      obtain ⟨-, -, rfl⟩ := e
      exact ⟨hle, hcm⟩
  have hidx : ∀ i (hi : i < LL.length), i ≠ k → LL[i].2.ownBlock = none ∨ LL[i].2.ownBlock ≠ LL[k].2.ownBlock := fun i hi hne => by
    rcases Nat.lt_or_gt_of_ne hne with hlt | hlt
    · exact List.pairwise_iff_getElem.1 h4 i k hi hk' hlt
    · rcases hq : LL[i].2.ownBlock with _ | q
      · exact .inl rfl
      · right
        intro e
        rcases List.pairwise_iff_getElem.1 h4 k i hk' hi hlt with h | h
        · rw [h] at e; cases e
        · exact h (by rw [hq, e])
  have hgB := h1.lt g rfl
  simp only [List.length_map, List.getElem_map]
  refine ⟨g, cap, a, c, rfl, hz.1, hz.2, hgB.1, hgB.2, ?_, h1.frozenAt k, ?_, ?_, ?_⟩
  · rw [hc, List.getElem?_map, List.getElem?_eq_getElem hk', Option.map_some, hu]
  · have := h2 LL[k] (List.getElem_mem hk')
    rw [hu] at this
    exact this
  · intro gk w' L' ha hg hI
    have hown : LL[k].2.ownBlock = some gk := by rw [hu, ha]; rfl
    have hgk : B ≤ gk ∧ gk < w.heap.size := (h2 LL[k] (List.getElem_mem hk')).own gk hown
    have hne : (Value.slice (some ⟨g, 0, none⟩) LL.length cap).ownBlock ≠ some gk := by
      rcases h3 LL[k] (List.getElem_mem hk') with h | h
      · rw [hown] at h; cases h
      · rw [hown] at h; exact fun e => h e.symm
    rw [← hu] at hI
    refine ThsO.swap hk' ?_ (fun i hi hik => ?_) hI h3 (h3 _ (List.getElem_mem hk')) h4 hidx
    · have e : (LL.map (·.2)).set k LL[k].2 = LL.map (·.2) := by
        apply List.ext_getElem (by simp)
        intro i h1 h2
        by_cases hik : i = k
        · subst hik; simp
        · rw [List.getElem_set_ne (fun e => hik e.symm)]
      rw [e]
      exact h1.kept hg (.inr hne)
    · refine (h2 LL[i] (List.getElem_mem hi)).kept hg ?_ (fun b hb => ⟨by have := hS b hb; omega, by have := hS b hb; intro e; injection e; omega⟩)
      rw [← hown]
      exact hidx i hi hik
  · intro o L' u' hI hun
    have hst := (h1.alloc o).stored k u'
    have hS' : ∀ b, S b → b < (w.alloc o).heap.size ∧ some b ≠ some g := fun b hb => ⟨by have := hS b hb; simp; omega, by have := hS b hb; intro e; injection e; omega⟩
    have hga : w.grownBy (w.alloc o) none := World.grownBy_alloc w o none
    refine ThsO.swap hk' hst.1 (fun i hi hik => ?_) (hI.kept hst.2 (.inr ?_) hS') h3 (.inr ?_) h4 (fun i hi hik => ?_)
    · refine ((h2 LL[i] (List.getElem_mem hi)).kept hga (by cases LL[i].2.ownBlock <;> simp) (fun b hb => ⟨by have := hS b hb; omega, by simp⟩)).kept hst.2 ?_ hS'
      exact h3 LL[i] (List.getElem_mem hi)
    · rw [hun]; intro e; injection e; omega
    · rw [hun]; intro e; simp [Value.ownBlock] at e; omega
    · rcases hq : LL[i].2.ownBlock with _ | q
      · exact .inl rfl
      · right
        have := ((h2 LL[i] (List.getElem_mem hi)).own q hq).2
        rw [hun]; intro e; injection e; omega

/-- One cell of an instruction is written. -/
theorem InsO.cellSet {w : World} {n0 : Nat} {S : Nat → Prop} {g cap m : Nat} {L : List Ins} (h : InsO w n0 S (.slice (some ⟨g, 0, none⟩) m cap) L) (hS : ∀ b, S b → b < n0) (i j : Nat) (hi : i < L.length) (hj : j < 12) (u : Value)
    (f : Ins × V8 → Ins × V8) (hf : ∀ y, insC (f y) = (insC y).set j u) (hE : ∀ (W : World) y, InsE W S y → InsE W S (f y)) :
    (∃ L', L'.length = L.length ∧ InsO (w.setCell ⟨g, i * 12 + j, none⟩ u) n0 S (.slice (some ⟨g, 0, none⟩) m cap) L') ∧ w.grownBy (w.setCell ⟨g, i * 12 + j, none⟩ u) (some g) ∧ w.frozen? ⟨g, i * 12 + j, none⟩ = false := by
  obtain ⟨LL, rfl, h1, h2⟩ := h
  have hg := (h1.lt g rfl).1
  have hm : m = LL.length := by
    obtain ⟨a, c, e⟩ := own_at h1
    simp only [Value.slice.injEq] at e
    exact e.2.1
  subst hm
  have hi' : i < LL.length := by simpa using hi
  have hst := h1.stored (i * 12 + j) u
  refine ⟨⟨(LL.set i (f LL[i])).map (·.1), by simp, LL.set i (f LL[i]), rfl, ?_, fun y hy => ?_⟩, hst.2, h1.frozenAt _⟩
  · rw [List.length_set, ← flat_set insC 12 insC_len LL i j hi' (f LL[i]) u hj (hf _)]
    exact hst.1
  · have hk : ∀ b o, S b → (w.setCell ⟨g, i * 12 + j, none⟩ u).cell? ⟨b, o, none⟩ = w.cell? ⟨b, o, none⟩ := fun b o hb => World.cell?_setCell_other _ _ _ _ (by have := hS b hb; intro e; injection e; omega)
    rcases List.mem_or_eq_of_mem_set hy with hy | rfl
    · exact ⟨(h2 y hy).1.keep hk, (h2 y hy).2.keep hk⟩
    · refine hE _ _ ?_
      have := h2 LL[i] (List.getElem_mem hi')
      exact ⟨this.1.keep hk, this.2.keep hk⟩
end Go.Proofs.YtcgpobeidlimkaaGreatDoor
namespace Go.Proofs.YtcgpobeidlimkaaGreatDoor
open Go.RowKit

/-- No expression lies in a block of three cells. -/
theorem ExIn.avoid {w : World} {S : Nat → Prop} {X : Nat} (hX : ∀ o, w.cell? ⟨X, o + 3, none⟩ = none) {cs : List Value} {x : Ex} (h : ExIn w S cs x) : ExIn w (fun b => S b ∧ b ≠ X) cs x := by
  induction h with
  | mk k n o a cap l cs wk wn wo hs hk ih =>
    refine .mk k n o a cap l cs wk wn wo ⟨hs.le, hs.mx, fun h0 => ?_⟩ (fun i hi => ih i hi)
    obtain ⟨b, off, rfl, hb, hc⟩ := hs.at_ h0
    refine ⟨b, off, rfl, ⟨hb, fun e => ?_⟩, hc⟩
    have h1 := hc 0 h0 3 (by omega)
    obtain ⟨u0, u1, u2, u3, e4⟩ := (hk 0 h0).four
    rw [e4, e] at h1
    simp only [Nat.zero_mul, Nat.zero_add] at h1
    rw [hX] at h1
    cases h1
theorem InsO.avoid {w : World} {B : Nat} {S : Nat → Prop} {X : Nat} {v : Value} {L : List Ins} (hX : ∀ o, w.cell? ⟨X, o + 3, none⟩ = none) (h : InsO w B S v L) : InsO w B (fun b => S b ∧ b ≠ X) v L := by
  obtain ⟨LL, h0, h1, h2⟩ := h
  exact ⟨LL, h0, h1, fun y hy => ⟨(h2 y hy).1.avoid hX, (h2 y hy).2.avoid hX⟩⟩
theorem ThsO.avoid {w : World} {B : Nat} {S : Nat → Prop} {X : Nat} {v : Value} {T : List (List Ins)} (hX : ∀ o, w.cell? ⟨X, o + 3, none⟩ = none) (h : ThsO w B S v T) : ThsO w B (fun b => S b ∧ b ≠ X) v T := by
  obtain ⟨LL, h0, h1, h2, h3, h4⟩ := h
  exact ⟨LL, h0, h1, fun y hy => (h2 y hy).avoid hX, h3, h4⟩
theorem ThsO.widen {w : World} {B : Nat} {S S' : Nat → Prop} {v : Value} {T : List (List Ins)} (h : ThsO w B S v T) (hS : ∀ b, S b → S' b) : ThsO w B S' v T := by
  obtain ⟨LL, h0, h1, h2, h3, h4⟩ := h
  exact ⟨LL, h0, h1, fun y hy => (h2 y hy).widen hS, h3, h4⟩
theorem KdIn.up {w : World} {B B' : Nat} {a : Option Addr} {n cap : Nat} (h : KdIn w B a n cap) (hB : B ≤ B') : KdIn w B' a n cap := by
  obtain ⟨h1, h2, h3, b, off, e, hb, hc⟩ := h
  exact ⟨h1, h2, h3, b, off, e, by omega, hc⟩

/-- What the maker of code leaves. -/
def MadeC (w : World) (e : Ending) (w' : World) : Prop :=
  ∃ (p : Pg) (n0 : Nat) (v : Value), e = .returned (.agg #[.int .i64 p.vars.length, .int .i64 p.dom, v]) ∧ rightP p = true ∧ 1 ≤ p.ths.length ∧ p.ths.length ≤ 3 ∧ p.vars.length ≤ 3 ∧
    ThsO w' n0 (fun b => b < n0) v (cmpT p.ths) ∧ w.heap.size ≤ n0 ∧ n0 ≤ w'.heap.size ∧ Below w.heap.size w w'

set_option maxRecDepth 100000 in
set_option maxHeartbeats 4000000 in
theorem madeC_any (w : World) (la : Option Addr) (ln lc : Nat) (ka : Option Addr) (kn kc : Nat) (hl : U8s w (In_ w) la ln lc) (hK : KdIn w w.heap.size ka kn kc) :
    Calls Tryz.prog 18 #[.slice la ln lc, .slice ka kn kc] w (MadeC w) := by
  generalize hW : w.alloc (.cells #[.int .i64 0, .int .i64 0, .slice none 0 0] 30) = W0
  have hB : Below w.heap.size w W0 := by subst hW; exact (Below.refl _ _).alloc (Nat.le_refl _) _
  have z0 : W0.heap.size = w.heap.size + 1 := by subst hW; simp
  have hR : W0.heap[w.heap.size]? = some (.cells #[.int .i64 0, .int .i64 0, .slice none 0 0] 30 (0, 0)) := by subst hW; exact heap_alloc_new w _
  have hKB := Kp.of hB
  have hl0 : U8s W0 (In_ W0) la ln lc := (hl.keep fun b o hb => hKB.2 b o hb).widen (In_.mono hB.size)
  have hK0 : KdIn W0 W0.heap.size ka kn kc := (hK.keep fun b o hb => hKB.2 b o hb).up hB.size
  have hmade := hid (madeP_any W0 la ln lc ka kn kc hl0 hK0)
  have HB := hid hB
  have HR := hid hR
  have hWx := hid hW
  clear hW hB hR hKB hl0 hK0 hl hK
  go_enter Tryz.func18, Tryz.ntmps18
  go_wp2_with fail
  rw [hWx.out]
  refine hmade.out.mono ?_
  intro e w1 hp1
  obtain ⟨p, cs, rfl, hP, hright, hv3, ht3, ht1, hb1⟩ := hp1.right
  have hP0 := hP
  obtain ⟨va, cv, ta, ct, rfl, -, -, -⟩ := hP
  have h4 := hid (rCompile_any p _ w1 hP0)
  have HB1 := hid (HB.out.trans (hb1.mono (by omega)))
  have HR1 := hid ((hb1.block _ (by omega)).trans HR.out)
  have zz := hb1.size
  have Hright := hid hright
  clear hp1 hb1 hmade hP0 hright HB HR hWx
  go_wp2_with fail
  refine h4.out.mono ?_
  intro e w2 hp2
  obtain ⟨v, rfl, hT, hb2⟩ := hp2
  rw [Hright.out] at hT
  simp only [Hright.out, if_true] at hT ⊢
  have hR2 := (hb2.block _ (by omega)).trans HR1.out
  have hB2 := HB1.out.trans (hb2.mono (by omega))
  have z2 := hb2.size
  have hX : ∀ o, w2.cell? ⟨w.heap.size, o + 3, none⟩ = none := fun o => by rw [cell_of_heap hR2]; simp
  have hT2 := hT.avoid hX
  clear hX hb2 h4 HB1 HR1 hT
  generalize hV5 : w2.alloc (.cells #[.int .i64 p.vars.length, .int .i64 p.dom, v] 30) = W5
  have hB5 : Below w2.heap.size w2 W5 := by subst hV5; exact (Below.refl _ _).alloc (Nat.le_refl _) _
  have y0 : W5.cell? ⟨w2.heap.size, 0, none⟩ = some (.int .i64 p.vars.length) := by subst hV5; go_simp
  have y1 : W5.cell? ⟨w2.heap.size, 1, none⟩ = some (.int .i64 p.dom) := by subst hV5; go_simp
  have y2 : W5.cell? ⟨w2.heap.size, 2, none⟩ = some v := by subst hV5; go_simp
  have z5 : w2.heap.size < W5.heap.size := by subst hV5; simp
  have hR5 := (hB5.block _ (by omega)).trans hR2
  have r0 := cell_of_heap (j := 0) hR5
  have r1 := cell_of_heap (j := 1) hR5
  have r2 := cell_of_heap (j := 2) hR5
  simp at r0 r1 r2
  have zR := fun j => unfrozen (j := j) hR5
  have lR : w.heap.size < W5.heap.size := by omega
  obtain ⟨ta2, tc2, hve⟩ := hT2.sl
  subst hve
  have hT5 := hid (hT2.later (n := w2.heap.size) hB5 (Nat.le_refl _) fun b hb => by have := hb.1; unfold In_ at this; omega)
  have HB5 := hid (hB2.trans (hB5.mono (by omega)))
  have hR6 : (((W5.setCell ⟨w.heap.size, 0, none⟩ (.int .i64 p.vars.length)).setCell ⟨w.heap.size, 1, none⟩ (.int .i64 p.dom)).setCell ⟨w.heap.size, 2, none⟩ (.slice ta2 (cmpT p.ths).length tc2)).heap[w.heap.size]? = some (.cells #[.int .i64 p.vars.length, .int .i64 p.dom, .slice ta2 (cmpT p.ths).length tc2] 30 (0, 0)) := by
    simp [World.setCell, Array.getElem?_modify, hR5]
  have g0 := hid (cell_of_heap (j := 0) hR6)
  have g1 := hid (cell_of_heap (j := 1) hR6)
  have g2 := hid (cell_of_heap (j := 2) hR6)
  have hV5x := hid hV5
  clear hV5 hB5 hT2 hB2 hR2 hR5 hR6
  go_upto_region 2 with fail
  rw [hV5x.out]
  go_wp2_with fail
  refine bodyPost_ret (v := .agg #[.int .i64 p.vars.length, .int .i64 p.dom, .slice ta2 (cmpT p.ths).length tc2]) ?_ rfl ?_
  · simp [results, Tryz.results18, go_sem, g0.out, g1.out, g2.out]
  · refine ⟨p, w1.heap.size, .slice ta2 (cmpT p.ths).length tc2, rfl, Hright.out, ht1, ht3, hv3, ?_, by omega, by simp; omega, ((HB5.out.setCell (by simp) _).setCell (by simp) _).setCell (by simp) _⟩
    have h6 : ThsO (((W5.setCell ⟨w.heap.size, 0, none⟩ (.int .i64 p.vars.length)).setCell ⟨w.heap.size, 1, none⟩ (.int .i64 p.dom)).setCell ⟨w.heap.size, 2, none⟩ (.slice ta2 (cmpT p.ths).length tc2)) w1.heap.size (fun b => In_ w1 b ∧ b ≠ w.heap.size) (.slice ta2 (cmpT p.ths).length tc2) (cmpT p.ths) := by
      have hS : ∀ W : World, W5.heap.size ≤ W.heap.size → ∀ b, (In_ w1 b ∧ b ≠ w.heap.size) → b < W.heap.size ∧ b ≠ w.heap.size := fun W hW b hb => ⟨by have := hb.1; unfold In_ at this; omega, hb.2⟩
      refine ThsO.put (ThsO.put (ThsO.put hT5.out (by omega) (hS _ (Nat.le_refl _)) _) (by omega) (hS _ (by simp)) _) (by omega) (hS _ (by simp)) _
    exact h6.widen fun b hb => hb.1
end Go.Proofs.YtcgpobeidlimkaaGreatDoor
