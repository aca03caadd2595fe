/- slices.Clone and slices.Delete at stores. -/
import Derived.Test.YtjjdmhbljagokaaBufB
import Derived.Deep.RegionLaw
import Derived.Lib.SliceRun
namespace Go.Proofs.Ytjjdmhbljagokaa
open Go.RowKit

/-- A row of stores of a call's own. -/
structure FlatAt (w : World) (g cap : Nat) (l : List (Int × Int)) : Prop where
  lt : g < w.heap.size
  le : l.length ≤ cap
  mx : cap ≤ maxLen
  cells : ∀ t, t < l.length * 2 → w.cell? ⟨g, t, none⟩ = (l.flatMap enC)[t]?
  free : ∀ t, t < l.length * 2 → w.frozen? ⟨g, t, none⟩ = false
theorem FlatAt.of_own {w : World} {base : Nat} {T : TypeId} {v : Value} {l : List (Int × Int)} (h : w.ownsRow base T 2 v l.length (l.flatMap enC)) (hpos : 0 < l.length) :
    ∃ g cap, v = .slice (some ⟨g, 0, none⟩) l.length cap ∧ base ≤ g ∧ FlatAt w g cap l := by
  have h' := h
  obtain ⟨_, h⟩ := h
  rcases h with ⟨rfl, h0⟩ | ⟨g, cap, cur, rfl, hb, hg, hle, hcm, hsz, htk⟩
  · omega
  · have hlt := (Array.getElem?_eq_some_iff.1 hg).1
    refine ⟨g, cap, rfl, hb, hlt, hle, hcm, fun t ht => ?_, fun t ht => ?_⟩
    · have hfl := EnIn.flat_length l
      rw [List.getElem?_eq_getElem (by omega)]
      have := h'.cells (g := g) rfl t _ (List.getElem?_eq_getElem (by omega))
      rwa [Addr.add_lit, Nat.zero_add] at this
    · exact h'.frozenAt t
def ClonePost (w : World) (l : List (Int × Int)) (e : Ending) (w' : World) : Prop :=
  ∃ g cap, e = .returned (.slice (some ⟨g, 0, none⟩) l.length cap) ∧ w.heap.size ≤ g ∧ FlatAt w' g cap l ∧ Below w.heap.size w w'

set_option maxHeartbeats 1000000 in
theorem clone_any (ad : Addr) (n cap : Nat) (l : List (Int × Int)) (w : World) (hl : EnIn w (In_ w) (some ad) n cap l) (hlen : l.length ≤ 1000) (hpos : 0 < l.length) :
    Calls Try.prog 25 #[.slice (some ad) n cap] w (ClonePost w l) := by
  have hn := hl.1
  subst hn
  have hq : ∀ (w : World), (binOp .eql 22 (.slice (some ad) l.length cap) (.slice none 0 0)).run Try.prog w = .ok (.bool false) w := fun w => Lib.run_eql_slice_nil w _ _ (some ad) l.length cap 0 0 Try.underlying22
  have hsrc := hid ((Kp.of ((Below.refl w.heap.size w).alloc (Nat.le_refl _) (.cells #[] 26))).en hl).src
  clear hl
  go_enter Try.func25, Try.ntmps25
  go_wp2_with (first
    | (at_builtin
       refine list_en (base := w.heap.size) (.tmp 5) (.tmp 6) (.slice (some ⟨w.heap.size, 0, none⟩) 0 0) 0 [] l.length (l.flatMap enC) ?_ ?_ ?_ ?_ ?_ ?_ ?_ ?_ ?_
       (focus rfl); (focus rfl); (focus rfl); (focus exact World.ownsRow_made w #[] 0 (Nat.le_refl _) (Nat.zero_le _) (by simp)); (focus exact ⟨_, _, rfl, hsrc.out⟩); (focus exact enC_one l); (focus omega); (focus simp)
       intro v2 w2 hown2 hg2 hat2)
    | fail)
  have hown3 : Hid (w2.ownsRow w.heap.size 26 2 v2 l.length (l.flatMap enC)) := by show World.ownsRow _ _ _ _ _ _ _; simpa using hown2
  have hb : Below w.heap.size w w2 := ((Below.refl _ _).alloc (Nat.le_refl _) _).grown hg2 (by simp) (fun k hk => by simp [Value.ownBlock] at hk; omega)
  obtain ⟨g, cap3, rfl, hg, hfl⟩ := FlatAt.of_own hown3.out hpos
  clear hown2 hg2 hat2
  have hfin : Hid (ClonePost w l (.returned (.slice (some ⟨g, 0, none⟩) l.length cap3)) w2) := ⟨g, cap3, rfl, hg, hfl, hb⟩
  clear hown3 hfl
  go_wp2_with fail
  go_ret
  exact hfin.out

/-- One store cleared. -/
theorem run_clear2 (w : World) (ty : TypeId) (b o c : Nat) (h0 : (w.cell? ⟨b, o, none⟩).isSome = true) (h1 : (w.cell? ⟨b, o + 1, none⟩).isSome = true) (f0 : w.frozen? ⟨b, o, none⟩ = false) (f1 : w.frozen? ⟨b, o + 1, none⟩ = false) :
    (Builtin.clear_ #[22] ty #[.slice (some ⟨b, o, none⟩) 1 c]).run Try.prog w = .ok (.tuple #[]) (w.setCells b o [.int .i64 0, .int .i64 0]) := by
  have ht := Try.underlying22
  have hv : ∀ w, (zeroValue 26).run Try.prog w = .ok (.agg #[.int .i64 0, .int .i64 0]) w := Try.zeroValue26
  have hzc : (Builtin.zeroCells (Value.agg #[.int .i64 0, .int .i64 0]).cells 1).toList = [.int .i64 0, .int .i64 0] := by
    apply List.ext_getElem
    · simp [Builtin.zeroCells, Value.cells]
    · intro i h1 h2
      match i, h2 with
      | 0, _ => simp [Builtin.zeroCells, Value.cells]
      | 1, _ => simp [Builtin.zeroCells, Value.cells]
  have hst := run_storeCells_cells (P := Try.prog) b o [.int .i64 0, .int .i64 0] 0 w (fun j hj => by match j, hj with | 0, _ => simpa using h0 | 1, _ => simpa using h1) (fun j hj => by match j, hj with | 0, _ => simpa using f0 | 1, _ => simpa using f1) one_cells
  simp only [Nat.add_zero] at hst
  simp [Builtin.clear_, run_underlying ht, hv, hzc, hst]

theorem below_cells {B g : Nat} {a : World} (hg : B ≤ g) : ∀ (vs : List Value) (o : Nat) {w : World}, Below B a w → Below B a (w.setCells g o vs)
  | [], _, _, h => h
  | v :: r, o, _, h => below_cells hg r (o + 1) (h.setCell (p := ⟨g, o, none⟩) hg v)
theorem flat_drop (l : List (Int × Int)) (j : Nat) : (l.drop j).flatMap enC = (l.flatMap enC).drop (j * 2) := by
  induction l generalizing j with
  | nil => simp
  | cons x l ih =>
    cases j with
    | zero => simp
    | succ j => rw [Nat.succ_mul]; simp [enC, ih]
theorem flat_take (l : List (Int × Int)) (j : Nat) : (l.take j).flatMap enC = (l.flatMap enC).take (j * 2) := by
  induction l generalizing j with
  | nil => simp
  | cons x l ih =>
    cases j with
    | zero => simp
    | succ j => rw [Nat.succ_mul]; simp [enC, ih]
theorem EnIn.of_flat {w : World} {g cap : Nat} {l : List (Int × Int)} (hle : l.length ≤ cap) (hmx : cap ≤ maxLen) (h : ∀ t, t < l.length * 2 → w.cell? ⟨g, t, none⟩ = (l.flatMap enC)[t]?) : EnIn w (fun b => b = g) (some ⟨g, 0, none⟩) l.length cap l :=
  ⟨rfl, hle, hmx, fun _ => ⟨g, 0, rfl, rfl, fun p hp q hq => by rw [Nat.zero_add, h _ (by omega)]; exact EnIn.flat_get l p q hp hq⟩⟩

set_option maxHeartbeats 2000000 in
theorem delete_any (g cap : Nat) (l : List (Int × Int)) (i : Nat) (w : World) (hi : i < l.length) (_hg : g < w.heap.size) (hle : l.length ≤ cap) (hmx : cap ≤ maxLen)
    (hl : ∀ t, t < l.length * 2 → w.cell? ⟨g, t, none⟩ = (l.flatMap enC)[t]?) (hf : ∀ t, t < l.length * 2 → w.frozen? ⟨g, t, none⟩ = false) :
    Calls Try.prog 24 #[.slice (some ⟨g, 0, none⟩) l.length cap, .int .i64 i, .int .i64 ((i : Int) + 1)] w fun e w' =>
      e = .returned (.slice (some ⟨g, 0, none⟩) (l.length - 1) cap) ∧ EnIn w' (fun b => b = g) (some ⟨g, 0, none⟩) (l.length - 1) cap (l.take i ++ l.drop (i + 1)) ∧ Below g w w' := by
  unfold maxLen at hmx
  obtain ⟨i0, hi0, hz0, hz1, hz2⟩ := info_parts en_info
  have hfl := EnIn.flat_length l
  obtain ⟨news, hnews⟩ : ∃ news, news = (l.drop (i + 1)).flatMap enC := ⟨_, rfl⟩
  have hlen : news.length = (l.length - (i + 1)) * 2 := by rw [hnews, EnIn.flat_length, List.length_drop]
  have hget : ∀ t, t < news.length → news[t]? = (l.flatMap enC)[(i + 1) * 2 + t]? := by
    intro t _
    rw [hnews, flat_drop, List.getElem?_drop]
  obtain ⟨A, hA, hsrc⟩ : ∃ A : Addr, (if cap = i + 1 then some (⟨g, 0, none⟩ : Addr) else some ⟨g, (i + 1) * 2, none⟩) = some A ∧ Hid (∀ t u, news[t]? = some u → w.drew.cell? (A.add t) = some u) := by
    by_cases h : cap = i + 1
    · refine ⟨⟨g, 0, none⟩, by simp [h], fun t u hu => ?_⟩
      have h0 : news.length = 0 := by rw [hlen]; omega
      rw [List.length_eq_zero_iff.1 h0] at hu
      simp at hu
    · refine ⟨⟨g, (i + 1) * 2, none⟩, by simp [h], fun t u hu => ?_⟩
      have ht := (List.getElem?_eq_some_iff.1 hu).1
      rw [hget t ht] at hu
      rw [Addr.add_lit]
      exact (hl ((i + 1) * 2 + t) (by omega)).trans hu
  have s1 : Hid (news.length = (l.length - (i + 1)) * 2) := hlen
  have s2 : Hid (∀ u ∈ news, u.oneCell' = true) := by rw [hnews]; exact enC_one _
  have s3 : Hid (∀ t, t < news.length → (w.drew.cell? ⟨g, 0 + i * 2 + t, none⟩).isSome = true ∧ w.drew.frozen? ⟨g, 0 + i * 2 + t, none⟩ = false) := by
    intro t ht
    rw [Nat.zero_add]
    refine ⟨?_, hf _ (by omega)⟩
    show (w.cell? _).isSome = true
    rw [hl _ (by omega), List.getElem?_eq_getElem (by omega)]
    rfl
  obtain ⟨W1, hW1⟩ : ∃ W1, W1 = w.drew.setCells g (0 + i * 2) news := ⟨_, rfl⟩
  have c1 : ∀ t, t < (l.length - 1) * 2 → W1.cell? ⟨g, t, none⟩ = ((l.take i ++ l.drop (i + 1)).flatMap enC)[t]? := by
    intro t ht
    have hL : (l.take i ++ l.drop (i + 1)).flatMap enC = (l.flatMap enC).take (i * 2) ++ news := by
      rw [List.flatMap_append, hnews, flat_take]
    rw [hL, hW1]
    by_cases h : t < i * 2
    · rw [World.cell?_setCells_out g news _ _ _ (fun _ _ => .inl (by simpa using h)), List.getElem?_append_left (by rw [List.length_take]; omega), List.getElem?_take_of_lt h]
      exact hl t (by omega)
    · have e := World.cell?_setCells_in g news (0 + i * 2) w.drew (fun j hj => (s3.out j hj).1) (t - i * 2) (by omega)
      rw [show 0 + i * 2 + (t - i * 2) = t by omega] at e
      rw [e, List.getElem?_append_right (by rw [List.length_take]; omega), List.length_take, List.getElem?_eq_getElem (by omega)]
      congr 2
      omega
  have c2 : ∀ t, t < l.length * 2 → (W1.cell? ⟨g, t, none⟩).isSome = true ∧ W1.frozen? ⟨g, t, none⟩ = false := by
    intro t ht
    rw [hW1]
    refine ⟨World.isSome_setCells g news _ _ _ ?_, by rw [World.frozen?_setCells]; exact hf t ht⟩
    show (w.cell? _).isSome = true
    rw [hl t ht, List.getElem?_eq_getElem (by omega)]
    rfl
  have hb1 : Below g w W1 := by rw [hW1]; exact below_cells (Nat.le_refl _) _ _ (Below.refl _ _).drew
  have hcl : ∀ ty c, (Builtin.clear_ #[22] ty #[.slice (some ⟨g, (l.length - 1) * 2, none⟩) 1 c]).run Try.prog W1 = .ok (.tuple #[]) (W1.setCells g ((l.length - 1) * 2) [.int .i64 0, .int .i64 0]) :=
    fun ty c => run_clear2 W1 ty g _ c (c2 _ (by omega)).1 (c2 _ (by omega)).1 (c2 _ (by omega)).2 (c2 _ (by omega)).2
  have hfin : Hid (EnIn (W1.setCells g ((l.length - 1) * 2) [.int .i64 0, .int .i64 0]) (fun b => b = g) (some ⟨g, 0, none⟩) (l.length - 1) cap (l.take i ++ l.drop (i + 1)) ∧ Below g w (W1.setCells g ((l.length - 1) * 2) [.int .i64 0, .int .i64 0])) := by
    have hl2 : l.length - 1 = (l.take i ++ l.drop (i + 1)).length := by simp; omega
    refine ⟨?_, below_cells (Nat.le_refl _) _ _ hb1⟩
    rw [hl2] at c1 ⊢
    refine EnIn.of_flat (by rw [← hl2]; omega) hmx fun t ht => ?_
    rw [World.cell?_setCells_out g _ _ _ _ (fun _ _ => .inl (by simpa using ht))]
    exact c1 t ht
  have hW : Hid (W1 = w.drew.setCells g (0 + i * 2) news) := hW1
  have hne : ((i : Int) == (i : Int) + 1) = false := by rw [beq_eq_false_iff_ne]; omega
  have hic : i ≤ cap := by omega
  have hjc : i + 1 ≤ cap := by omega
  have hin : i + (l.length - (i + 1)) = l.length - 1 := by omega
  have hi1 : (0 : Int) ≤ i + 1 := by omega
  have hi2 : (i : Int) + 1 ≤ l.length := by omega
  clear hW1 c1 c2 hb1 hget hnews hlen hfl hl hf
  go_enter Try.func24, Try.ntmps24
  go_wp2_with fail
  go_region_law (refine step_append_room rfl (.tmp 22) (.tmp 25) 22 rfl 26 i0 2 Try.underlying22 hi0 hz1 g 0 i cap (by simp [Act.eval, Act.put]) A (l.length - (i + 1)) (cap - (i + 1)) news (by simp [Act.eval, Act.put]) s1.out hsrc.out s2.out (by omega) s3.out ?_; rw [← hW.out])
  have hone : l.length - (l.length - 1) = 1 := by omega
  clear s1 s2 s3 hsrc hW
  go_wp2_with fail
  go_ret
  exact ⟨rfl, hfin.out⟩

end Go.Proofs.Ytjjdmhbljagokaa
