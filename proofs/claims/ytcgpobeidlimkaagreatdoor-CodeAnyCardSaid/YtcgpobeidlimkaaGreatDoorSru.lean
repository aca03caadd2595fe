/- Names, sorted, each once: as many as there are just where no two are the same. Names that are none. -/
import Derived.Test.YtcgpobeidlimkaaGreatDoorSrt
import Derived.Sort.OwnSorted
import Derived.Sort.KeysCollected
namespace Go.Proofs.YtcgpobeidlimkaaGreatDoor
open Go.RowKit Go.Sort

theorem compact_len (zs : List (List UInt8)) : (Lib.compact zs).length = ((List.range zs.length).filter (Lib.keeps zs.toArray)).length := by
  unfold Lib.compact Lib.compactUpTo
  rw [List.length_map]
theorem filter_len {p : Nat → Bool} : ∀ (l : List Nat), ((l.filter p).length = l.length ↔ ∀ j ∈ l, p j = true)
  | [] => by simp
  | a :: l => by
    have ih := filter_len (p := p) l
    have hle := List.length_filter_le p l
    by_cases h : p a = true
    · rw [List.filter_cons_of_pos h]
      simp only [List.length_cons, Nat.add_right_cancel_iff, List.mem_cons, forall_eq_or_imp, h, true_and]
      exact ih
    · rw [List.filter_cons_of_neg h]
      rw [List.length_cons]
      exact ⟨fun e => absurd e (by omega), fun hh => absurd (hh a (List.mem_cons_self ..)) h⟩
theorem nodup_of_sorted {l : List (List UInt8)} (hs : l.Pairwise (fun a b => a ≤ b)) : (Lib.compact l).length = l.length ↔ l.Nodup := by
  rw [compact_len]
  have h0 : (List.range l.length).length = l.length := List.length_range
  conv => lhs; rhs; rw [← h0]
  rw [filter_len]
  constructor
  · intro h
    rw [List.nodup_iff_pairwise_ne] at *
    rw [List.pairwise_iff_getElem] at *
    intro i j hi hj hij heq
    have hk := h j (by simpa using hj)
    unfold Lib.keeps at hk
    simp only [decide_eq_true_eq] at hk
    rcases hk with hk | hk
    · omega
    · apply hk
      have e1 : l.toArray[j]! = l[j] := by rw [getElem!_pos _ j (by simpa using hj)]; simp
      have e2 : l.toArray[j - 1]! = l[j - 1] := by rw [getElem!_pos _ (j - 1) (by simp; omega)]; simp
      rw [e1, e2]
      refine List.le_antisymm ?_ (hs (j - 1) j (by omega) hj (by omega))
      rw [← heq]
      rcases Nat.lt_or_ge i (j - 1) with h' | h'
      · exact hs i (j - 1) hi (by omega) h'
      · have : i = j - 1 := by omega
        subst this
        exact List.le_refl _
  · intro h j hj
    have hj := List.mem_range.1 hj
    unfold Lib.keeps
    simp only [decide_eq_true_eq]
    by_cases h0 : j = 0
    · exact .inl h0
    right
    rw [List.nodup_iff_pairwise_ne, List.pairwise_iff_getElem] at h
    have e1 : l.toArray[j]! = l[j] := by rw [getElem!_pos _ j (by simpa using hj)]; simp
    have e2 : l.toArray[j - 1]! = l[j - 1] := by rw [getElem!_pos _ (j - 1) (by simp; omega)]; simp
    rw [e1, e2]
    exact fun e => h (j - 1) j (by omega) hj (by omega) e.symm
theorem bl_inj {a b : ByteArray} (h : bl a = bl b) : a = b := by
  have h1 : encStr (bl a) = encStr (bl b) := by rw [h]
  rw [encStr_bl, encStr_bl] at h1
  exact Value.string.inj h1
theorem nodup_bl (l : List ByteArray) : (l.map bl).Nodup ↔ l.Nodup := by
  rw [List.nodup_iff_pairwise_ne, List.nodup_iff_pairwise_ne, List.pairwise_map]
  constructor
  · exact fun h => h.imp fun h e => h (by rw [e])
  · exact fun h => h.imp fun h e => h (bl_inj e)
theorem sorted_nodup (l : List ByteArray) : (Lib.compact ((l.map bl).mergeSort fun x y => decide (x ≤ y))).length = l.length ↔ l.Nodup := by
  have tr : ∀ a b c : List UInt8, leB a b = true → leB b c = true → leB a c = true := fun a b c h1 h2 => by simp only [leB, decide_eq_true_eq] at *; exact List.le_trans h1 h2
  have to : ∀ a b : List UInt8, (leB a b || leB b a) = true := fun a b => by simp only [leB, Bool.or_eq_true, decide_eq_true_eq]; exact List.le_total a b
  have hp := List.pairwise_mergeSort tr to (l.map bl)
  have hs : ((l.map bl).mergeSort fun x y => decide (x ≤ y)).Pairwise (fun a b => a ≤ b) := hp.imp fun h => by simpa [leB] using h
  have h1 := nodup_of_sorted hs
  rw [List.length_mergeSort, List.length_map] at h1
  rw [h1, ← nodup_bl]
  exact (List.mergeSort_perm _ _).nodup_iff

/-- slices.Compact, of what slices.Sorted gives. -/
def CmPost (l : List ByteArray) (g : Nat) (w : World) (e : Ending) (w' : World) : Prop :=
  ∃ (n cap : Nat), e = .returned (.slice (some ⟨g, 0, none⟩) n cap) ∧ (n = l.length ↔ l.Nodup) ∧ n ≤ l.length ∧ Below g w w'
theorem compactS_any (g cap : Nat) (l : List ByteArray) (w : World) (hg0 : g ≤ w.heap.size) (h4 : l.length ≤ 4) (hc : l.length ≤ cap) (hH : Holds encStr w g 0 ((l.map bl).mergeSort fun x y => decide (x ≤ y)).toArray) :
    Calls Tryz.prog 45 #[.slice (some ⟨g, 0, none⟩) l.length cap] w (CmPost l g w) := by
  have hl : ((l.map bl).mergeSort fun x y => decide (x ≤ y)).length = l.length := by rw [List.length_mergeSort, List.length_map]
  have hn := sorted_nodup l
  have hle : (Lib.compact ((l.map bl).mergeSort fun x y => decide (x ≤ y))).length ≤ l.length := by rw [← hl]; exact Lib.compact_length_le _
  have h := slices_Compact_string g 0 cap ((l.map bl).mergeSort fun x y => decide (x ≤ y)) w hH (by omega) (by omega)
  rw [hl] at h
  refine h.mono ?_
  rintro e w' ⟨rfl, n, rfl⟩
  have hg := grownBy_sorted (w := w) (g := g) (n := n) (os := #[]) (Lib.compact ((l.map bl).mergeSort fun x y => decide (x ≤ y)) ++ List.replicate (l.length - (Lib.compact ((l.map bl).mergeSort fun x y => decide (x ≤ y))).length) []).toArray
  rw [show ∀ W : World, grow W #[] = W from fun W => by simp [grow]] at hg
  exact ⟨_, cap, rfl, hn, hle, (Below.refl g w).grown hg hg0 (fun k hk => by cases hk; exact Nat.le_refl _)⟩

/-! ### Names that are none. -/
set_option maxHeartbeats 1000000 in
theorem nodd_any (s : ByteArray) (w : World) : Calls Tryz.prog 42 #[.string s] w fun e w' => e = .returned (.bool (!nameB s)) ∧ Below w.heap.size w w' := by
  have h := name_any s w
  generalize nameB s = b at h ⊢
  go_enter Tryz.func42, Tryz.ntmps42
  go_wp2_with (first
    | (go_at_call 43; refine h.mono ?_; rintro e w1 ⟨rfl, hb⟩)
    | fail)
  go_ret
  exact ⟨rfl, hb⟩
set_option maxHeartbeats 2000000 in
theorem nindex_any (a : Option Addr) (cap : Nat) (l : List ByteArray) (w : World) (hin : VrIn w (In_ w) a l.length cap l) :
    Calls Tryz.prog 68 #[.slice a l.length cap, .func (.func 42) #[] #[]] w (IdxPost w (l.any fun s => !nameB s)) := by
  have hcap := hin.le
  have hmx := hin.mx
  unfold maxLen at hmx
  have Hin := hid hin
  clear hin
  go_enter Tryz.func68, Tryz.ntmps68
  go_wp2_with fail
  go_loopw [8] (fun i wr => ∃ k : Nat, k ≤ l.length ∧ i = .int .i64 k ∧ Hid (((l.take k).any fun s => !nameB s) = false) ∧ Kp w wr) (fun i _ => l.length - (intOf i).toNat)
  case atStart => exact ⟨0, Nat.zero_le _, rfl, (rfl : _ = _), Kp.refl _⟩
  case round =>
    obtain ⟨k, hk, rfl, hno, hK⟩ := hrel
    by_cases hlt : k < l.length
    · obtain ⟨bb, off, rfl, hbb, e0⟩ := Hin.out.at_ k hlt
      have hbl := hbb.lt
      have k0 : (0 : Int) ≤ k := by omega
      have k1 : (k : Int) < l.length := by omega
      have g0 := hK.1.size
      have g3 : bb < wr.heap.size := by omega
      have hcall := hid (nodd_any l[k] wr)
      have htk : Hid (((l.take (k + 1)).any fun s => !nameB s) = !nameB l[k]) := by
        show _ = _
        rw [List.take_succ_eq_append_getElem hlt, List.any_append, hno.out]
        simp
      have hall : Hid (nameB l[k] = false → (l.any fun s => !nameB s) = true) := by
        intro h
        exact List.any_eq_true.2 ⟨l[k], List.getElem_mem hlt, by simp [h]⟩
      clear hno
      generalize l[k] = s at *
      cases hf : nameB s
      · rw [hf] at hcall htk
        go_wp2_with (first
          | (go_at_call 42
             with_reducible refine hcall.out.mono ?_
             rintro e w1 ⟨rfl, hb3⟩)
          | fail)
        go_ret
        exact ⟨k, rfl, by rw [hall.out hf]; simp, hK.1.trans (hb3.mono hK.1.size)⟩
      · rw [hf] at hcall htk
        go_wp2_with (first
          | (go_at_call 42
             with_reducible refine hcall.out.mono ?_
             rintro e w1 ⟨rfl, hb3⟩)
          | fail)
        go_roundw
        case rel => exact ⟨k + 1, by omega, by simp, htk, hK.next hb3⟩
        case measure => simp [intOf]; omega
    · obtain rfl : k = l.length := by omega
      rw [List.take_length] at hno
      go_wp2_with fail
      go_ret
      exact ⟨-1, rfl, by rw [hno.out]; rfl, hK.1⟩
theorem ncontains_any (a : Option Addr) (cap : Nat) (l : List ByteArray) (w : World) (hin : VrIn w (In_ w) a l.length cap l) :
    Calls Tryz.prog 44 #[.slice a l.length cap, .func (.func 42) #[] #[]] w fun e w' => e = .returned (.bool (!l.all nameB)) ∧ Below w.heap.size w w' := by
  have hcall := hid (nindex_any a cap l w hin)
  have he : (l.any fun s => !nameB s) = !l.all nameB := by rw [List.all_eq_not_any_not]; simp
  rw [he] at hcall
  clear hin he
  generalize (!l.all nameB) = y at *
  go_enter Tryz.func44, Tryz.ntmps44
  go_wp2_with (first
    | (go_at_call 68
       with_reducible refine hcall.out.mono ?_
       rintro e w1 ⟨r, rfl, hr, hb3⟩)
    | fail)
  go_ret
  exact ⟨rfl, hb3⟩
end Go.Proofs.YtcgpobeidlimkaaGreatDoor
