/- Names, sorted, each once: how many there are. -/
import Derived.Test.YtphlbbnmligadaaGreatDoorBunN
import Derived.Test.YtphlbbnmligadaaGreatDoorBunM
import Derived.Test.YtphlbbnmligadaaGreatDoorRShelf
import Derived.Shelf.RegionOpen
import Derived.WalkKit
import Derived.OwnWalkIn
import Derived.TacticsInMore
import Derived.LoopNIn
import Derived.LoopIn
import Derived.ControlIn
import Derived.Sort.OwnSorted
import Derived.Sort.KeysCollected
namespace Go.Proofs.YtphlbbnmligadaaGreatDoor
open Go.RowKit Go.Sort

def bl (s : ByteArray) : List UInt8 := s.data.toList
theorem encStr_bl (s : ByteArray) : encStr (bl s) = .string s := by
  show Value.string _ = _
  unfold bl
  cases s; rfl

set_option maxRecDepth 100000 in
set_option maxHeartbeats 2000000 in
/-- slices.Values's closure. -/
theorem values1_in (n : Nat) (hn : 1 ≤ n) (l Bs n0 : Nat) (a : Option Addr) (cap : Nat) (zs : List ByteArray) (J : List (List UInt8) → World → Prop) (w W : World) (hBw : Below n0 w W)
    (hz : VrIn w (fun b => b < n0) a zs.length cap zs) (hBs : w.cell? ⟨Bs, 0, none⟩ = some (.slice a zs.length cap)) (hB0 : Bs < n0)
    (hJB : ∀ pre W1, J pre W1 → Below n0 w W1)
    (hY : ∀ pre x W1, J pre W1 → pre.length < zs.length → YieldAt Fence.wide (n - 1) Tryz.prog l #[encStr x] W1 fun e W' => e = .returned (.bool true) ∧ J (pre ++ [x]) W' ∧ KeepsWalks W1 W')
    (h0 : J [] W) :
    CallsIn Fence.wide n Tryz.prog 76 #[.func (.yield l) #[] #[], .pointer (some ⟨Bs, 0, none⟩)] W fun e W' => (∃ v, e = .returned v) ∧ ∃ xs, xs = zs.map bl ∧ J xs W' := by
  have hcap := hz.le
  have hmx := hz.mx
  unfold maxLen at hmx
  have hBs' : W.cell? ⟨Bs, 0, none⟩ = some (.slice a zs.length cap) := (hBw.cell (p := ⟨_, _, none⟩) hB0).trans hBs
  refine callsIn_of_wp Tryz.func76 rfl trivial ?_ rfl
  simp only [Tryz.ntmps76, List.size_toArray, List.length_cons, List.length_nil, Nat.reduceAdd, Nat.reduceSub, Array.replicate_succ, Array.replicate_zero, List.push_toArray, List.append_toArray, List.nil_append, List.cons_append]
  gi_wp2
  gi_loopw [7] (fun i wr => ∃ k : Nat, k ≤ zs.length ∧ i = .int .i64 k ∧ J ((zs.take k).map bl) wr) (fun i _ => zs.length - (intOf i).toNat)
  case atStart => exact ⟨0, Nat.zero_le _, rfl, h0⟩
  case round =>
    obtain ⟨k, hk, rfl, hJs⟩ := hrel
    by_cases hlt : k < zs.length
    · obtain ⟨b, off, rfl, hb, hc⟩ := hz.at_ k hlt
      have hcx : wr.cell? ⟨b, off + k, none⟩ = some (.string zs[k]) := ((hJB _ _ hJs).cell (p := ⟨_, _, none⟩) hb).trans hc
      obtain ⟨fn, tmps, assign, body, hy, hR⟩ := hY _ (bl zs[k]) wr hJs (by simp; omega)
      rw [encStr_bl] at hy
      gi_wp2
      refine hR.mono ?_
      rintro e W3 ⟨rfl, hJ3, hk3⟩
      gi_wp2
      go_roundw
      case rel => exact ⟨k + 1, by omega, by simp, by rw [List.take_succ_eq_append_getElem hlt, List.map_append]; exact hJ3⟩
      case measure => simp [intOf]; omega
    · obtain rfl : k = zs.length := by omega
      rw [List.take_length] at hJs
      gi_wp2
      go_end0
      exact ⟨⟨_, rfl⟩, _, rfl, hJs⟩

/-- slices.Values. -/
def VlPost (a : Option Addr) (n cap : Nat) (w : World) (e : Ending) (w' : World) : Prop :=
  ∃ Bs, e = .returned (.func (.func 76) #[] #[.pointer (some ⟨Bs, 0, none⟩)]) ∧ Bs < w'.heap.size ∧ w'.cell? ⟨Bs, 0, none⟩ = some (.slice a n cap) ∧ Below w.heap.size w w'
theorem values_any (a : Option Addr) (n cap : Nat) (w : World) : Calls Tryz.prog 45 #[.slice a n cap] w (VlPost a n cap w) := by
  go_enter Tryz.func45, Tryz.ntmps45
  go_wp2_with fail
  go_ret
  exact ⟨w.heap.size, rfl, by simp, by go_simp, (Below.refl _ w).alloc (Nat.le_refl _) _⟩

theorem sortsB (m : Nat) : AnyZ.SortsIn Tryz.prog laysZ6_ren Fence.wide m :=
  ⟨fun blk off cap ss W hH hblk hsz => callsIn_wide.2 (slices_Sort_string blk off cap ss W hH hblk hsz), fun p cap W => callsIn_wide.2 (slices_Sort_string_none p cap W)⟩

/-- slices.Sorted, of what slices.Values gives. -/
def SoPost (l : List ByteArray) (w : World) (e : Ending) (w' : World) : Prop :=
  ∃ g cap, e = .returned (.slice (some ⟨g, 0, none⟩) l.length cap) ∧ w.heap.size ≤ g ∧ l.length ≤ cap ∧ Holds encStr w' g 0 ((l.map bl).mergeSort fun x y => decide (x ≤ y)).toArray ∧ Below w.heap.size w w'
set_option maxHeartbeats 1000000 in
theorem sorted_any (Bs : Nat) (a : Option Addr) (cap : Nat) (l : List ByteArray) (w : World) (h1 : 1 ≤ l.length) (h4 : l.length ≤ 4) (hz : VrIn w (In_ w) a l.length cap l) (hB : Bs < w.heap.size) (hBs : w.cell? ⟨Bs, 0, none⟩ = some (.slice a l.length cap)) :
    Calls Tryz.prog 44 #[.func (.func 76) #[] #[.pointer (some ⟨Bs, 0, none⟩)]] w (SoPost l w) := by
  have hseq : SeqGivesB Fence.wide (6 - 1 - 1 - 1) Tryz.prog 76 #[.pointer (some ⟨Bs, 0, none⟩)] encStr (fun xs => xs = l.map bl) l.length w := fun y J W hW _ hJB hY h0 =>
    values1_in 3 (by omega) y Bs w.heap.size a cap l J w W hW hz hBs hB hJB hY h0
  have h := callsIn_wide.1 (sortedB_in (P := Tryz.prog) (ρ := laysZ6_ren) laysZ6 Fence.wide 6 trivial trivial trivial trivial rfl (by omega) (sortsB _) (enters_of Tryz.func75 (by kernel_rfl) rfl) 76 #[.pointer (some ⟨Bs, 0, none⟩)] trivial
    (enters_of Tryz.func76 (by kernel_rfl) rfl) (fun xs => xs = l.map bl) l.length (by unfold maxLen; omega) (by omega) w hseq)
  refine Calls.mono h ?_
  rintro e w' ⟨v, ss, rfl, rfl, hrow, hnil, hb⟩
  rcases hrow.2 with ⟨rfl, hz0⟩ | ⟨g, cap2, cur, rfl, hbase, hgb, r1, r2, r3, r4⟩
  · simp at hz0
    rw [hz0] at h1
    simp at h1
  · rw [List.length_map] at r1 ⊢
    refine ⟨g, cap2, rfl, hbase, r1, holds_of_block hgb ?_, hb⟩
    simpa using r4
end Go.Proofs.YtphlbbnmligadaaGreatDoor
namespace Go.Proofs.YtphlbbnmligadaaGreatDoor
open Go.RowKit Go.Sort

theorem compact_len (zs : List (List UInt8)) : (Lib.compact zs).length = ((List.range zs.length).filter (Lib.keeps zs.toArray)).length := by
  unfold Lib.compact Lib.compactUpTo
  rw [List.length_map]
theorem filter_len {p : Nat → Bool} : ∀ (l : List Nat), ((l.filter p).length = l.length ↔ ∀ j ∈ l, p j = true)
  | [] => by simp
  | a :: l => by
    have ih := filter_len (p := p) l
    have hle := List.length_filter_le p l
    by_cases h : p a = true
    · rw [List.filter_cons_of_pos h]
      simp only [List.length_cons, Nat.add_right_cancel_iff, List.mem_cons, forall_eq_or_imp, h, true_and]
      exact ih
    · rw [List.filter_cons_of_neg h]
      rw [List.length_cons]
      exact ⟨fun e => absurd e (by omega), fun hh => absurd (hh a (List.mem_cons_self ..)) h⟩
theorem nodup_of_sorted {l : List (List UInt8)} (hs : l.Pairwise (fun a b => a ≤ b)) : (Lib.compact l).length = l.length ↔ l.Nodup := by
  rw [compact_len]
  have h0 : (List.range l.length).length = l.length := List.length_range
  conv => lhs; rhs; rw [← h0]
  rw [filter_len]
  constructor
  · intro h
    rw [List.nodup_iff_pairwise_ne] at *
    rw [List.pairwise_iff_getElem] at *
    intro i j hi hj hij heq
    have hk := h j (by simpa using hj)
    unfold Lib.keeps at hk
    simp only [decide_eq_true_eq] at hk
    rcases hk with hk | hk
    · omega
    · apply hk
      have e1 : l.toArray[j]! = l[j] := by rw [getElem!_pos _ j (by simpa using hj)]; simp
      have e2 : l.toArray[j - 1]! = l[j - 1] := by rw [getElem!_pos _ (j - 1) (by simp; omega)]; simp
      rw [e1, e2]
      refine List.le_antisymm ?_ (hs (j - 1) j (by omega) hj (by omega))
      rw [← heq]
      rcases Nat.lt_or_ge i (j - 1) with h' | h'
      · exact hs i (j - 1) hi (by omega) h'
      · have : i = j - 1 := by omega
        subst this
        exact List.le_refl _
  · intro h j hj
    have hj := List.mem_range.1 hj
    unfold Lib.keeps
    simp only [decide_eq_true_eq]
    by_cases h0 : j = 0
    · exact .inl h0
    right
    rw [List.nodup_iff_pairwise_ne, List.pairwise_iff_getElem] at h
    have e1 : l.toArray[j]! = l[j] := by rw [getElem!_pos _ j (by simpa using hj)]; simp
    have e2 : l.toArray[j - 1]! = l[j - 1] := by rw [getElem!_pos _ (j - 1) (by simp; omega)]; simp
    rw [e1, e2]
    exact fun e => h (j - 1) j (by omega) hj (by omega) e.symm
theorem bl_inj {a b : ByteArray} (h : bl a = bl b) : a = b := by
  have h1 : encStr (bl a) = encStr (bl b) := by rw [h]
  rw [encStr_bl, encStr_bl] at h1
  exact Value.string.inj h1
theorem nodup_bl (l : List ByteArray) : (l.map bl).Nodup ↔ l.Nodup := by
  rw [List.nodup_iff_pairwise_ne, List.nodup_iff_pairwise_ne, List.pairwise_map]
  constructor
  · exact fun h => h.imp fun h e => h (by rw [e])
  · exact fun h => h.imp fun h e => h (bl_inj e)
theorem sorted_nodup (l : List ByteArray) : (Lib.compact ((l.map bl).mergeSort fun x y => decide (x ≤ y))).length = l.length ↔ l.Nodup := by
  have tr : ∀ a b c : List UInt8, leB a b = true → leB b c = true → leB a c = true := fun a b c h1 h2 => by simp only [leB, decide_eq_true_eq] at *; exact List.le_trans h1 h2
  have to : ∀ a b : List UInt8, (leB a b || leB b a) = true := fun a b => by simp only [leB, Bool.or_eq_true, decide_eq_true_eq]; exact List.le_total a b
  have hp := List.pairwise_mergeSort tr to (l.map bl)
  have hs : ((l.map bl).mergeSort fun x y => decide (x ≤ y)).Pairwise (fun a b => a ≤ b) := hp.imp fun h => by simpa [leB] using h
  have h1 := nodup_of_sorted hs
  rw [List.length_mergeSort, List.length_map] at h1
  rw [h1, ← nodup_bl]
  exact (List.mergeSort_perm _ _).nodup_iff

/-- slices.Compact, of what slices.Sorted gives. -/
def CmPost (l : List ByteArray) (g : Nat) (w : World) (e : Ending) (w' : World) : Prop :=
  ∃ (n cap : Nat), e = .returned (.slice (some ⟨g, 0, none⟩) n cap) ∧ (n = l.length ↔ l.Nodup) ∧ n ≤ l.length ∧ Below g w w'
theorem compactS_any (g cap : Nat) (l : List ByteArray) (w : World) (hg0 : g ≤ w.heap.size) (h4 : l.length ≤ 4) (hc : l.length ≤ cap) (hH : Holds encStr w g 0 ((l.map bl).mergeSort fun x y => decide (x ≤ y)).toArray) :
    Calls Tryz.prog 43 #[.slice (some ⟨g, 0, none⟩) l.length cap] w (CmPost l g w) := by
  have hl : ((l.map bl).mergeSort fun x y => decide (x ≤ y)).length = l.length := by rw [List.length_mergeSort, List.length_map]
  have hn := sorted_nodup l
  have hle : (Lib.compact ((l.map bl).mergeSort fun x y => decide (x ≤ y))).length ≤ l.length := by rw [← hl]; exact Lib.compact_length_le _
  have h := slices_Compact_string g 0 cap ((l.map bl).mergeSort fun x y => decide (x ≤ y)) w hH (by omega) (by omega)
  rw [hl] at h
  refine h.mono ?_
  rintro e w' ⟨rfl, n, rfl⟩
  have hg := grownBy_sorted (w := w) (g := g) (n := n) (os := #[]) (Lib.compact ((l.map bl).mergeSort fun x y => decide (x ≤ y)) ++ List.replicate (l.length - (Lib.compact ((l.map bl).mergeSort fun x y => decide (x ≤ y))).length) []).toArray
  rw [show ∀ W : World, grow W #[] = W from fun W => by simp [grow]] at hg
  exact ⟨_, cap, rfl, hn, hle, (Below.refl g w).grown hg hg0 (fun k hk => by cases hk; exact Nat.le_refl _)⟩

/-! ### Names that are none. -/
set_option maxHeartbeats 1000000 in
theorem nodd_any (s : ByteArray) (w : World) : Calls Tryz.prog 40 #[.string s] w fun e w' => e = .returned (.bool (!nameB s)) ∧ Below w.heap.size w w' := by
  have h := name_any s w
  generalize nameB s = b at h ⊢
  go_enter Tryz.func40, Tryz.ntmps40
  go_wp2_with (first
    | (go_at_call 41; refine h.mono ?_; rintro e w1 ⟨rfl, hb⟩)
    | fail)
  go_ret
  exact ⟨rfl, hb⟩
set_option maxHeartbeats 2000000 in
theorem nindex_any (a : Option Addr) (cap : Nat) (l : List ByteArray) (w : World) (hin : VrIn w (In_ w) a l.length cap l) :
    Calls Tryz.prog 73 #[.slice a l.length cap, .func (.func 40) #[] #[]] w (IdxPost w (l.any fun s => !nameB s)) := by
  have hcap := hin.le
  have hmx := hin.mx
  unfold maxLen at hmx
  have Hin := hid hin
  clear hin
  go_enter Tryz.func73, Tryz.ntmps73
  go_wp2_with fail
  go_loopw [8] (fun i wr => ∃ k : Nat, k ≤ l.length ∧ i = .int .i64 k ∧ Hid (((l.take k).any fun s => !nameB s) = false) ∧ Kp w wr) (fun i _ => l.length - (intOf i).toNat)
  case atStart => exact ⟨0, Nat.zero_le _, rfl, (rfl : _ = _), Kp.refl _⟩
  case round =>
    obtain ⟨k, hk, rfl, hno, hK⟩ := hrel
    by_cases hlt : k < l.length
    · obtain ⟨bb, off, rfl, hbb, e0⟩ := Hin.out.at_ k hlt
      have hbl := hbb.lt
      have k0 : (0 : Int) ≤ k := by omega
      have k1 : (k : Int) < l.length := by omega
      have g0 := hK.1.size
      have g3 : bb < wr.heap.size := by omega
      have hcall := hid (nodd_any l[k] wr)
      have htk : Hid (((l.take (k + 1)).any fun s => !nameB s) = !nameB l[k]) := by
        show _ = _
        rw [List.take_succ_eq_append_getElem hlt, List.any_append, hno.out]
        simp
      have hall : Hid (nameB l[k] = false → (l.any fun s => !nameB s) = true) := by
        intro h
        exact List.any_eq_true.2 ⟨l[k], List.getElem_mem hlt, by simp [h]⟩
      clear hno
      generalize l[k] = s at *
      cases hf : nameB s
      · rw [hf] at hcall htk
        go_wp2_with (first
          | (go_at_call 40
             with_reducible refine hcall.out.mono ?_
             rintro e w1 ⟨rfl, hb3⟩)
          | fail)
        go_ret
        exact ⟨k, rfl, by rw [hall.out hf]; simp, hK.1.trans (hb3.mono hK.1.size)⟩
      · rw [hf] at hcall htk
        go_wp2_with (first
          | (go_at_call 40
             with_reducible refine hcall.out.mono ?_
             rintro e w1 ⟨rfl, hb3⟩)
          | fail)
        go_roundw
        case rel => exact ⟨k + 1, by omega, by simp, htk, hK.next hb3⟩
        case measure => simp [intOf]; omega
    · obtain rfl : k = l.length := by omega
      rw [List.take_length] at hno
      go_wp2_with fail
      go_ret
      exact ⟨-1, rfl, by rw [hno.out]; rfl, hK.1⟩
theorem ncontains_any (a : Option Addr) (cap : Nat) (l : List ByteArray) (w : World) (hin : VrIn w (In_ w) a l.length cap l) :
    Calls Tryz.prog 42 #[.slice a l.length cap, .func (.func 40) #[] #[]] w fun e w' => e = .returned (.bool (!l.all nameB)) ∧ Below w.heap.size w w' := by
  have hcall := hid (nindex_any a cap l w hin)
  have he : (l.any fun s => !nameB s) = !l.all nameB := by rw [List.all_eq_not_any_not]; simp
  rw [he] at hcall
  clear hin he
  generalize (!l.all nameB) = y at *
  go_enter Tryz.func42, Tryz.ntmps42
  go_wp2_with (first
    | (go_at_call 73
       with_reducible refine hcall.out.mono ?_
       rintro e w1 ⟨r, rfl, hr, hb3⟩)
    | fail)
  go_ret
  exact ⟨rfl, hb3⟩
end Go.Proofs.YtphlbbnmligadaaGreatDoor
