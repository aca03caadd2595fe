/- The token ahead of a text: first. -/
import Derived.Test.YtphlbbnmligadaaGreatDoorBunG
import Derived.BigRegion
import Derived.Deep.RegionHeld3
import Derived.RangeFuncNested
import Derived.RangeFuncBound
import Derived.RangeFuncCalls
import Derived.RangeFuncLeaves
import Derived.Shelf.Abstract
import Derived.Shelf.RegionOpen
import Derived.WalkKit
import Derived.OwnWalkIn
import Derived.TacticsInMore
import Derived.LoopNIn
import Derived.LoopIn
import Derived.ControlIn
import Derived.RangeFuncBox
import Derived.RangeFuncWrites
import Derived.Maps.AppendAt
import Derived.Stop.LaidErr
import Derived.Lib.LaidTab
import Derived.LaidSub
import Derived.MakeChecks
namespace Go.Proofs.YtphlbbnmligadaaGreatDoor
namespace Lx
open Go.RowKit

theorem indexByte_iff : ∀ (l : List UInt8) (c : UInt8), 0 ≤ Lib.indexByte l c ↔ c ∈ l
  | [], c => by simp [Lib.indexByte]
  | b :: l, c => by
    have ih := indexByte_iff l c
    have hge := Lib.indexByte_ge l c
    simp only [Lib.indexByte, List.mem_cons]
    by_cases h : b = c
    · subst h; simp
    · have h1 : ¬ (b == c) = true := by simpa using h
      have h2 : ¬ c = b := fun e => h e.symm
      rw [if_neg h1]
      simp only [h2, false_or, ← ih]
      by_cases h3 : Lib.indexByte l c = -1
      · rw [h3]; decide
      · have h4 : ¬ (Lib.indexByte l c == -1) = true := by simpa using h3
        rw [if_neg h4]
        omega
theorem indexByte_has (l : List UInt8) (c : UInt8) : decide (0 ≤ Lib.indexByte l c) = l.contains c := by
  rw [Bool.eq_iff_iff, decide_eq_true_eq, List.contains_iff_mem, indexByte_iff]

theorem two_eq (l : List UInt8) : two l = (Lib.hasPrefix l [61, 61] || Lib.hasPrefix l [33, 61]) := by
  unfold two Lib.hasPrefix
  split
  · simp [List.isPrefixOf]
  · simp [List.isPrefixOf]
  · rename_i h1 h2
    rcases l with _ | ⟨a, _ | ⟨b, l⟩⟩
    · rfl
    · simp [List.isPrefixOf]
    · have e1 : ¬ (a = 61 ∧ b = 61) := fun ⟨e, f⟩ => h1 l (by rw [e, f])
      have e2 : ¬ (a = 33 ∧ b = 61) := fun ⟨e, f⟩ => h2 l (by rw [e, f])
      simp only [List.isPrefixOf, Bool.and_true]
      by_cases f1 : b = 61
      · have g1 : ¬ a = 61 := fun e => e1 ⟨e, f1⟩
        have g2 : ¬ a = 33 := fun e => e2 ⟨e, f1⟩
        have k1 : ((61 : UInt8) == a) = false := by simpa using fun e => g1 e.symm
        have k2 : ((33 : UInt8) == a) = false := by simpa using fun e => g2 e.symm
        simp [k1, k2]
      · have k1 : ((61 : UInt8) == b) = false := by simpa using fun e => f1 e.symm
        simp [k1]

theorem prefix_any (s p : ByteArray) (w : World) :
    Calls Tryz.prog 99 #[.string s, .string p] w fun e w' => e = .returned (.bool (Lib.hasPrefix s.data.toList p.data.toList)) ∧ w = w' :=
  (strings_HasPrefix s p w).mono fun _ _ h => ⟨h.1, h.2.symm⟩
theorem sign_any (c : UInt8) (w : World) :
    Calls Tryz.prog 100 #[.string ⟨#[43, 45, 42, 60, 38, 124, 61, 40, 41, 123, 125, 59, 44]⟩, .int .u8 c.toNat] w fun e w' => (∃ x, e = .returned (.int .i64 x) ∧ decide (0 ≤ x) = signB c) ∧ w = w' := by
  refine (strings_IndexByte _ _ w).mono ?_
  rintro e w' ⟨rfl, rfl⟩
  refine ⟨⟨_, rfl, ?_⟩, rfl⟩
  rw [indexByte_has]
  have : (c.toNat : Int).toNat.toUInt8 = c := by simp
  rw [this]
  rfl

/-- What first says of a text. -/
def firstOk (l : List UInt8) : Bool := match l with | [] => true | _ => (headT l).isSome
def firstT (l : List UInt8) : Tok := match headT l with | some (k, n, v) => ⟨k, l.take n, v, 0⟩ | none => ⟨0, [], 0, 0⟩
def FirstPost (l : List UInt8) (w : World) (e : Ending) (w' : World) : Prop :=
  ∃ k t n, e = .returned (.tuple #[.agg #[.int .i64 k, strV t, .int .i64 n, .int .i64 0], .bool (firstOk l)]) ∧ (firstOk l = true → k = (firstT l).kind ∧ t = (firstT l).text ∧ n = (firstT l).n) ∧ Below w.heap.size w w'

theorem FirstPost.of {l : List UInt8} {w w' : World} {k n : Int} {t : List UInt8} {b : Bool} (h : b = firstOk l) (hk : b = true → k = (firstT l).kind ∧ t = (firstT l).text ∧ n = (firstT l).n) (hB : Below w.heap.size w w') :
    FirstPost l w (.returned (.tuple #[.agg #[.int .i64 k, strV t, .int .i64 n, .int .i64 0], .bool b])) w' := by
  subst h
  exact ⟨k, t, n, rfl, hk, hB⟩

set_option maxRecDepth 100000 in
set_option maxHeartbeats 4000000 in
theorem first_any (s : ByteArray) (w : World) (hs : s.size ≤ 100000) (hv : Vars w) :
    Calls Tryz.prog 56 #[.string s] w (FirstPost s.data.toList w) := by
  have hB1 : Below w.heap.size w (w.alloc (.cells #[.int .i64 0, .string { data := #[] }, .int .i64 0, .int .i64 0] 76)) := (Below.refl _ w).alloc (Nat.le_refl _) _
  cases hl : s.data.toList with
  | nil =>
    have he : s.toList.isEmpty = true := by rw [Lib.toList_data, hl]; rfl
    have hfin : Hid (∀ w', Below w.heap.size w w' → FirstPost [] w (.returned (.tuple #[.agg #[.int .i64 0, .string { data := #[] }, .int .i64 0, .int .i64 0], .bool true])) w') := fun w' hB =>
      FirstPost.of (l := []) (k := 0) (n := 0) (t := []) (b := true) rfl (fun _ => ⟨rfl, rfl, rfl⟩) hB
    clear hl
    go_enter Tryz.func56, Tryz.ntmps56
    go_wp2_with fail
    refine bodyPost_ret ?_ rfl (hfin.out _ hB1)
    simp [results, Tryz.results56, go_sem]
  | cons c r =>
    have hne : s.toList.isEmpty = false := by rw [Lib.toList_data, hl]; rfl
    have h1 : 1 ≤ s.size := by rw [← data_len, hl]; simp
    have hc : s[0] = c := by
      have := drop_byte s 0 h1
      rw [List.drop_zero, hl] at this
      exact (List.cons.inj this).1.symm
    have hcz : (s[0].toNat : Int) = c.toNat := by rw [hc]
    have ht : ∀ n, (s.extract 0 n) = ⟨((c :: r).take n).toArray⟩ := fun n => by
      have := ext_take s n
      rw [hl] at this
      rw [← this, ← bytes_eq]
    have i0 : (0 : Int) < s.size := by omega
    have i1 : (1 : Int) ≤ s.size := by omega
    by_cases hL : letterB c = true
    · have hrun := run_part s (w.alloc (.cells #[.int .i64 0, .string { data := #[] }, .int .i64 0, .int .i64 0] 76)) hs
      obtain ⟨n, hn⟩ : ∃ n, runP partB s.data.toList = n := ⟨_, rfl⟩
      have hle : n ≤ s.size := by rw [← hn, ← data_len]; exact runP_le _ _
      have hle' : (n : Int) ≤ s.size := by omega
      have hn0 : (0 : Int) ≤ n := by omega
      rw [hn] at hrun
      have hT : headT (c :: r) = some (1, n, 0) := by
        simp only [headT]
        rw [if_pos hL, ← hl, hn]
      have hfin : Hid (∀ w', Below w.heap.size w w' → FirstPost (c :: r) w (.returned (.tuple #[.agg #[.int .i64 1, .string (s.extract 0 n), .int .i64 0, .int .i64 0], .bool true])) w') := fun w' hB => by
        rw [ht]
        exact FirstPost.of (b := true) (by simp [firstOk, hT]) (fun _ => by simp [firstT, hT]) hB
      have hlet := letter_any c (w.alloc (.cells #[.int .i64 0, .string { data := #[] }, .int .i64 0, .int .i64 0] 76))
      rw [hL, ← hc] at hlet
      clear hT ht hl hn hc hcz
      go_enter Tryz.func56, Tryz.ntmps56
      go_wp2_with (first
        | (go_at_call 68; refine hlet.mono ?_; rintro e w1 ⟨rfl, rfl⟩)
        | (go_at_call 69; refine hrun.mono ?_; rintro e w1 ⟨rfl, rfl⟩)
        | fail)
      refine bodyPost_ret ?_ rfl (hfin.out _ ?_)
      · simp [results, Tryz.results56, go_sem]
      · exact (Below.refl _ w).alloc (Nat.le_refl _) _
    · have hL' : letterB c = false := by simpa using hL
      have hlet := letter_any c (w.alloc (.cells #[.int .i64 0, .string { data := #[] }, .int .i64 0, .int .i64 0] 76))
      rw [hL', ← hc] at hlet
      have hdigc := digit_any c (w.alloc (.cells #[.int .i64 0, .string { data := #[] }, .int .i64 0, .int .i64 0] 76))
      rw [← hc] at hdigc
      by_cases hD : digitB c = true
      · rw [hc, hD, ← hc] at hdigc
        have hnum := number_any s (w.alloc (.cells #[.int .i64 0, .string { data := #[] }, .int .i64 0, .int .i64 0] 76)) hs ⟨c, r, hl, hD⟩ (hv.next hB1)
        rw [hl] at hnum
        have hT : headT (c :: r) = if 6 < runP digitB (c :: r) ∨ 1 < runP digitB (c :: r) ∧ c = 48 then none else some (2, runP digitB (c :: r), numLx ((c :: r).take (runP digitB (c :: r)))) := by
          simp only [headT]
          rw [if_neg hL, if_pos hD]
        have hok : numOk (c :: r) = firstOk (c :: r) := by
          unfold numOk firstOk
          simp only [hT, List.head?_cons, Option.some.injEq]
          by_cases hx : 6 < runP digitB (c :: r) ∨ 1 < runP digitB (c :: r) ∧ c = 48
          · rw [if_pos hx]; simp [hx]
          · rw [if_neg hx, decide_eq_true hx]; rfl
        have tb1 := TBox.new w 76 (.int .i64 0) (.string { data := #[] }) (.int .i64 0) (.int .i64 0)
        have hfin : Hid (∀ n w', (numOk (c :: r) = true → n = numLx ((c :: r).take (runP digitB (c :: r)))) → Below w.heap.size w w' → FirstPost (c :: r) w (.returned (.tuple #[.agg #[.int .i64 2, strV ((c :: r).take (runP digitB (c :: r))), .int .i64 n, .int .i64 0], .bool (numOk (c :: r))])) w') := fun n w' hn hB => by
          refine FirstPost.of hok (fun h => ?_) hB
          have hx : ¬ (6 < runP digitB (c :: r) ∨ 1 < runP digitB (c :: r) ∧ c = 48) := by
            have h' := of_decide_eq_true h
            intro hx
            apply h'
            rcases hx with hx | ⟨hx, e⟩
            · exact .inl hx
            · exact .inr ⟨hx, by rw [e]; rfl⟩
          rw [if_neg hx] at hT
          simp only [firstT, hT]
          exact ⟨trivial, trivial, hn h⟩
        clear hT ht hl hc hcz hok
        go_enter Tryz.func56, Tryz.ntmps56
        go_wp2_with (first
          | (go_at_call 68; refine hlet.mono ?_; rintro e w1 ⟨rfl, rfl⟩)
          | (go_at_call 97; refine hdigc.mono ?_; rintro e w1 ⟨rfl, rfl⟩)
          | (go_at_call 98; refine hnum.mono ?_; rintro e w2 ⟨n, rfl, hn, hB2⟩
             have tb2 := tb1.below hB2 (by simp)
             have c0 := tb2.c0
             have c1 := tb2.c1
             have c2 := tb2.c2
             have c3 := tb2.c3
             have f0 := tb2.f0)
          | fail)
        refine bodyPost_ret ?_ rfl (hfin.out n _ hn (set4_below (hB1.trans (hB2.mono (by simp))) (Nat.le_refl _)))
        simp [results, Tryz.results56, go_sem, c0, c1, c2, c3]
      · have hD' : digitB c = false := by simpa using hD
        rw [hc, hD', ← hc] at hdigc
        have hp1 := prefix_any s ⟨#[61, 61]⟩ (w.alloc (.cells #[.int .i64 0, .string { data := #[] }, .int .i64 0, .int .i64 0] 76))
        have hp2 := prefix_any s ⟨#[33, 61]⟩ (w.alloc (.cells #[.int .i64 0, .string { data := #[] }, .int .i64 0, .int .i64 0] 76))
        rw [hl] at hp1 hp2
        have htwo := two_eq (c :: r)
        by_cases h2 : two (c :: r) = true
        · have hT : headT (c :: r) = some (3, 2, 0) := by
            simp only [headT]
            rw [if_neg hL, if_neg hD, if_pos h2]
          have hlen := two_len h2
          have h2s : 2 ≤ s.size := by rw [← data_len, hl]; exact hlen
          have h2i : (2 : Int) ≤ s.size := by omega
          have hfin : Hid (∀ w', Below w.heap.size w w' → FirstPost (c :: r) w (.returned (.tuple #[.agg #[.int .i64 3, .string (s.extract 0 2), .int .i64 0, .int .i64 0], .bool true])) w') := fun w' hB => by
            rw [ht]
            exact FirstPost.of (b := true) (by simp [firstOk, hT]) (fun _ => by simp [firstT, hT]) hB
          rw [h2] at htwo
          cases hq1 : Lib.hasPrefix (c :: r) [61, 61] <;> cases hq2 : Lib.hasPrefix (c :: r) [33, 61]
          · rw [hq1, hq2] at htwo; cases htwo
          all_goals
            change Calls _ _ _ _ (fun e w' => e = .returned (.bool (Lib.hasPrefix (c :: r) [61, 61])) ∧ _ = w') at hp1
            change Calls _ _ _ _ (fun e w' => e = .returned (.bool (Lib.hasPrefix (c :: r) [33, 61])) ∧ _ = w') at hp2
            rw [hq1] at hp1
            rw [hq2] at hp2
            clear hT ht hl hc hcz htwo hq1 hq2
            go_enter Tryz.func56, Tryz.ntmps56
            go_wp2_with (first
              | (go_at_call 68; refine hlet.mono ?_; rintro e w1 ⟨rfl, rfl⟩)
              | (go_at_call 97; refine hdigc.mono ?_; rintro e w1 ⟨rfl, rfl⟩)
              | (go_at_call 99; refine hp1.mono ?_; clear hp1; rintro e w1 ⟨rfl, rfl⟩)
              | (go_at_call 99; refine hp2.mono ?_; clear hp2; rintro e w1 ⟨rfl, rfl⟩)
              | fail)
            refine bodyPost_ret ?_ rfl (hfin.out _ ?_)
            · simp [results, Tryz.results56, go_sem]
            · exact (Below.refl _ w).alloc (Nat.le_refl _) _
        · have h2' : two (c :: r) = false := by simpa using h2
          have hT : headT (c :: r) = if signB c = true then some (3, 1, 0) else none := by
            simp only [headT]
            rw [if_neg hL, if_neg hD, if_neg h2]
          have hfin : Hid (∀ w', Below w.heap.size w w' → FirstPost (c :: r) w (.returned (.tuple #[.agg #[.int .i64 3, .string (s.extract 0 1), .int .i64 0, .int .i64 0], .bool (signB c)])) w') := fun w' hB => by
            rw [ht]
            refine FirstPost.of ?_ (fun h => ?_) hB
            · simp only [firstOk, hT]
              cases signB c <;> rfl
            · rw [if_pos h] at hT
              simp [firstT, hT]
          have hsc : signB s[0] = signB c := by rw [hc]
          have hsg : ∀ w', Calls Tryz.prog 100 #[.string ⟨#[43, 45, 42, 60, 38, 124, 61, 40, 41, 123, 125, 59, 44]⟩, .int .u8 s[0].toNat] w' fun e w'' => (∃ x, e = .returned (.int .i64 x) ∧ decide (0 ≤ x) = signB c) ∧ w' = w'' := fun w' => by
            have := sign_any s[0] w'
            rwa [hsc] at this
          rw [h2'] at htwo
          have hq1 : Lib.hasPrefix (c :: r) [61, 61] = false := by cases h : Lib.hasPrefix (c :: r) [61, 61]; rfl; rw [h] at htwo; cases htwo
          have hq2 : Lib.hasPrefix (c :: r) [33, 61] = false := by cases h : Lib.hasPrefix (c :: r) [33, 61]; rfl; rw [h, hq1] at htwo; cases htwo
          change Calls _ _ _ _ (fun e w' => e = .returned (.bool (Lib.hasPrefix (c :: r) [61, 61])) ∧ _ = w') at hp1
          change Calls _ _ _ _ (fun e w' => e = .returned (.bool (Lib.hasPrefix (c :: r) [33, 61])) ∧ _ = w') at hp2
          rw [hq1] at hp1
          rw [hq2] at hp2
          generalize signB c = B at *
          clear hT ht hl hc hcz htwo hq1 hq2 hsc
          go_enter Tryz.func56, Tryz.ntmps56
          go_wp2_with (first
            | (go_at_call 68; refine hlet.mono ?_; rintro e w1 ⟨rfl, rfl⟩)
            | (go_at_call 97; refine hdigc.mono ?_; rintro e w1 ⟨rfl, rfl⟩)
            | (go_at_call 99; refine hp1.mono ?_; clear hp1; rintro e w1 ⟨rfl, rfl⟩)
            | (go_at_call 99; refine hp2.mono ?_; clear hp2; rintro e w1 ⟨rfl, rfl⟩)
            | fail)
          go_region_with (first
            | (go_at_call 100; refine (hsg _).mono ?_; rintro e w1 ⟨⟨x, rfl, hx⟩, rfl⟩)
            | fail)
          all_goals go_wp2
          all_goals refine bodyPost_ret ?_ rfl (hfin.out _ ?_)
          all_goals first
            | exact ((Below.refl _ w).alloc (Nat.le_refl _) _).drew
            | simp [results, Tryz.results56, go_sem]
end Lx
end Go.Proofs.YtphlbbnmligadaaGreatDoor
namespace Go.Proofs.YtphlbbnmligadaaGreatDoor
namespace Lx
open Go.RowKit Go.Shelf

attribute [local go_sem] Oper.semAt_some

/-- What the caller collects lies in box Bo: its row is of the worlds's own. -/
def OutIs (W : World) (Bo : Nat) (v : Value) : Prop := W.cell? ⟨Bo, 0, none⟩ = some v ∧ ∀ g, v.ownBlock = some g → g < W.heap.size
/-- Whatever is cells, but that box and its row, is kept. -/
def KpO (n₀ Bo : Nat) (W W' : World) : Prop := Below n₀ W W' ∧ ∀ v, OutIs W Bo v → ∃ v', OutIs W' Bo v' ∧ (v'.ownBlock = v.ownBlock ∨ ∃ g, v'.ownBlock = some g ∧ W.heap.size ≤ g) ∧
  ∀ k o, W.heap[k]? = some o → o.isCells = true → k ≠ Bo → v.ownBlock ≠ some k → W'.heap[k]? = some o

theorem kpO_t {n₀ Bo : Nat} {A B C : World} (h : KpO n₀ Bo A B) (k : KpO n₀ Bo B C) : KpO n₀ Bo A C := by
  refine ⟨h.1.trans k.1, fun v hv => ?_⟩
  obtain ⟨v1, h1, h2, h3⟩ := h.2 v hv
  obtain ⟨v2, k1, k2, k3⟩ := k.2 v1 h1
  refine ⟨v2, k1, ?_, fun i o hi ho hb hn => ?_⟩
  · rcases k2 with e | ⟨g, e, hg⟩
    · rw [e]; exact h2
    · exact .inr ⟨g, e, Nat.le_trans h.1.size hg⟩
  · refine k3 i o (h3 i o hi ho hb hn) ho hb ?_
    rcases h2 with e | ⟨g, e, hg⟩
    · rw [e]; exact hn
    · rw [e]
      intro e'
      have := (Array.getElem?_eq_some_iff.1 hi).1
      simp at e'
      omega

theorem cells_of_cell {W : World} {b o : Nat} {v : Value} (h : W.cell? ⟨b, o, none⟩ = some v) : ∃ ob, W.heap[b]? = some ob ∧ ob.isCells = true := by
  unfold World.cell? at h
  cases hx : W.heap[b]? with
  | none => simp [hx] at h
  | some ob =>
    refine ⟨ob, rfl, ?_⟩
    cases ob <;> simp [hx] at h ⊢ <;> rfl

theorem kpO_b {n₀ Bo : Nat} {w : World} (hn : n₀ ≤ w.heap.size) (W : World) (l : Nat) (o o' : Obj) (hl : w.heap.size ≤ l) (h : W.heap[l]? = some o) (hc : o.isCells = false) (hw : o.isWalk = false) : KpO n₀ Bo W (W.putObj l o') := by
  have hg := grownBy_putObj' W l o'
  refine ⟨belowK_b hn W l o o' hl h hc hw, fun v hv => ⟨v, ⟨?_, fun g e => Nat.lt_of_lt_of_le (hv.2 g e) hg.size⟩, .inl rfl, fun k ob hk ho _ _ => ?_⟩⟩
  · exact cell_kept hv.1 hg (fun r e => by cases e; exact ⟨o, h, hc⟩)
  · rw [hg.block k (Array.getElem?_eq_some_iff.1 hk).1 (fun e => by cases e; rw [h] at hk; cases hk; rw [hc] at ho; cases ho)]
    exact hk
theorem drop_blanks : ∀ l : List UInt8, Lib.trimLeftS l [32, 10] = l.drop (runP blankB l)
  | [] => rfl
  | c :: l => by
    have ih := drop_blanks l
    have hc : [32, 10].contains c = blankB c := by
      simp only [blankB, List.contains_cons, List.contains_nil, Bool.or_false]
    unfold Lib.trimLeftS at ih ⊢
    rw [List.dropWhile_cons]
    by_cases h : blankB c = true
    · rw [if_pos (by rw [hc]; exact h), runP_cons_pos h, List.drop_succ_cons]
      exact ih
    · rw [if_neg (by rw [hc]; exact h), runP_cons_neg (by simpa using h), List.drop_zero]

theorem trim_any (s : ByteArray) (w : World) :
    Calls Tryz.prog 55 #[.string s, .string ⟨#[32, 10]⟩] w fun e w' => e = .returned (strV (s.data.toList.drop (runP blankB s.data.toList))) ∧ Below w.heap.size w w' := by
  refine (Any.strings_TrimLeft_laid lays161 (by kernel_rfl) s ⟨#[32, 10]⟩ w (by decide) (ascii_of_all (by decide))).mono ?_
  rintro e w' ⟨rfl, hB⟩
  refine ⟨?_, hB⟩
  rw [drop_blanks]

/-- What has come is what a text's tokens are, or these and the place where there is none. -/
def Came (r : List Tok × Option Nat) (ys : List (Tok × Bool)) : Prop :=
  match r.2 with
  | none => ys = r.1.map (·, true)
  | some j => ∃ t : Tok, t.place = j ∧ ys = r.1.map (·, true) ++ [(t, false)]

theorem lexA_step (L : List UInt8) (k m : Nat) (hm : runP blankB (L.drop k) = m) :
    (L.drop (k + m) = [] → lexA L k = ([⟨0, [], 0, k + m⟩], none)) ∧ (L.drop (k + m) ≠ [] → headT (L.drop (k + m)) = none → lexA L k = ([], some (k + m))) ∧
    (∀ kk n v, headT (L.drop (k + m)) = some (kk, n, v) → lexA L k = (⟨kk, (L.drop (k + m)).take n, v, k + m⟩ :: (lexA L (k + m + n)).1, (lexA L (k + m + n)).2)) := by
  have hd : (L.drop k).drop m = L.drop (k + m) := by rw [List.drop_drop]
  refine ⟨fun h => ?_, fun hne h => ?_, fun kk n v h => ?_⟩
  · unfold lexA
    simp only [lexF, hm]
    rw [hd, h]
  · unfold lexA
    simp only [lexF, hm]
    rw [hd]
    cases hx : L.drop (k + m) with
    | nil => exact absurd hx hne
    | cons c r => rw [hx] at h; simp only [h]
  · have h1 := headT_len h
    have e : lexA L (k + m + n) = lexF L.length ((L.drop (k + m)).drop n) (k + m + n) := by
      unfold lexA
      rw [List.drop_drop]
      have hl : (L.drop (k + m)).length = L.length - (k + m) := by simp
      exact lexF_fuel _ _ _ _ (by simp; omega) (by simp; omega)
    rw [e]
    unfold lexA
    simp only [lexF, hm]
    rw [hd]
    cases hx : L.drop (k + m) with
    | nil => rw [hx] at h; simp [headT] at h
    | cons c r => rw [hx] at h; simp only [h]

theorem headT_kind {l : List UInt8} {k : Int} {n : Nat} {v : Int} (h : headT l = some (k, n, v)) : k ≠ 0 := by
  cases l with
  | nil => simp [headT] at h
  | cons c l =>
    simp only [headT] at h
    split at h
    · cases h; decide
    · split at h
      · split at h
        · cases h
        · cases h; decide
      · split at h
        · cases h; decide
        · split at h
          · cases h; decide
          · cases h

/-- What first says, and what has come with it. -/
theorem came_step {L : List UInt8} {k m : Nat} {ts : List Tok} {kd nn : Int} {t : List UInt8} (hm : runP blankB (L.drop k) = m) (hL : lexA L 0 = (ts ++ (lexA L k).1, (lexA L k).2))
    (hfo : firstOk (L.drop (k + m)) = true → kd = (firstT (L.drop (k + m))).kind ∧ t = (firstT (L.drop (k + m))).text ∧ nn = (firstT (L.drop (k + m))).n) :
    (firstOk (L.drop (k + m)) = false → Came (lexA L 0) (ts.map (·, true) ++ [(⟨kd, t, nn, k + m⟩, false)])) ∧
    (firstOk (L.drop (k + m)) = true → kd = 0 → Came (lexA L 0) (ts.map (·, true) ++ [(⟨kd, t, nn, k + m⟩, true)])) ∧
    (firstOk (L.drop (k + m)) = true → kd ≠ 0 → 1 ≤ t.length ∧ k + m + t.length ≤ L.length ∧ lexA L 0 = ((ts ++ [⟨kd, t, nn, k + m⟩]) ++ (lexA L (k + m + t.length)).1, (lexA L (k + m + t.length)).2)) := by
  obtain ⟨s1, s2, s3⟩ := lexA_step L k m hm
  cases hx : L.drop (k + m) with
  | nil =>
    rw [hx] at hfo
    obtain ⟨rfl, rfl, rfl⟩ := hfo rfl
    refine ⟨fun h => (by cases h), fun _ _ => ?_, fun _ h => absurd rfl h⟩
    rw [hL, s1 hx]
    simp [Came, firstT, headT]
  | cons c r =>
    rw [hx] at hfo s2 s3
    cases hh : headT (c :: r) with
    | none =>
      have hno : firstOk (c :: r) = false := by simp [firstOk, hh]
      rw [hno]
      refine ⟨fun _ => ?_, fun h => (by cases h), fun h => (by cases h)⟩
      rw [hL, s2 (by simp) hh]
      exact ⟨⟨kd, t, nn, k + m⟩, rfl, by simp⟩
    | some x =>
      obtain ⟨kk, n, v⟩ := x
      have hok : firstOk (c :: r) = true := by simp [firstOk, hh]
      obtain ⟨rfl, rfl, rfl⟩ := hfo hok
      have hft : firstT (c :: r) = ⟨kk, (c :: r).take n, v, 0⟩ := by simp [firstT, hh]
      rw [hok, hft]
      have hn := headT_len hh
      refine ⟨fun h => (by cases h), fun _ h => absurd h (headT_kind hh), fun _ _ => ?_⟩
      have hl : ((c :: r).take n).length = n := by rw [List.length_take]; omega
      have hl2 := congrArg List.length hx
      rw [List.length_drop] at hl2
      simp only [hl]
      refine ⟨hn.1, by omega, ?_⟩
      rw [hL, s3 kk n v hh]
      simp

theorem grown_of_below {a b : World} (h : Below a.heap.size a b) : a.grownBy b none := ⟨h.os, h.tape, h.output, h.size, fun k hk _ => h.block k hk⟩
theorem OutIs.below {a b : World} {Bo : Nat} {v : Value} (h : OutIs a Bo v) (hb : Below a.heap.size a b) : OutIs b Bo v :=
  ⟨(hb.cell (p := ⟨Bo, 0, none⟩) (World.block_lt_of_cell? _ _ h.1)).trans h.1, fun g e => Nat.lt_of_lt_of_le (h.2 g e) hb.size⟩
theorem TBox.kpO {A B : World} {n₀ Bo Bt : Nat} {v v0 v1 v2 v3 : Value} (h : TBox A Bt v0 v1 v2 v3) (hk : KpO n₀ Bo A B) (ho : OutIs A Bo v) (hb : Bt ≠ Bo) (hv : v.ownBlock ≠ some Bt) : TBox B Bt v0 v1 v2 v3 := by
  obtain ⟨v', _, _, h3⟩ := hk.2 v ho
  obtain ⟨o, h1, h2⟩ := cells_of_cell h.c0
  exact h.block hk.1.size ((h3 Bt o h1 h2 hb hv).trans h1.symm)

set_option maxRecDepth 100000 in
set_option maxHeartbeats 4000000 in
theorem tokens1_in (n : Nat) (hn : 1 ≤ n) (lo Bs Bo n₀ : Nat) (s : ByteArray) (hs : s.size ≤ 100000) (J Jx : List (Tok × Bool) → World → Prop) (hJ : ∀ p A B, J p A → A.grownBy B none → J p B)
    (hY : ∀ pre x W, J pre W → pre.length < s.size + 1 → YieldAt Fence.wide (n - 1) Tryz.prog lo #[tkV x.1, .bool x.2] W fun e W' =>
      (e = .returned (.bool true) ∧ J (pre ++ [x]) W' ∧ KpO n₀ Bo W W') ∨ (e = .returned (.bool false) ∧ Jx (pre ++ [x]) W'))
    (W : World) (hv : Vars W) (hn₀ : gTop ≤ n₀) (hBs : W.cell? ⟨Bs, 0, none⟩ = some (.string s)) (hne : Bs ≠ Bo) (hO : OutIs W Bo (.slice none 0 0)) (h0 : J [] W) :
    CallsIn Fence.wide n Tryz.prog 54 #[.func (.yield lo) #[] #[], .pointer (some ⟨Bs, 0, none⟩)] W fun e W' => (∃ v, e = .returned v) ∧
      ((∃ ys, Came (lexA s.data.toList 0) ys ∧ J ys W') ∨ (∃ pre, (Came (lexA s.data.toList 0) pre ∨ ∀ x ∈ pre, x.2 = true) ∧ Jx pre W')) := by
  refine callsIn_of_wp Tryz.func54 rfl trivial ?_ rfl
  simp only [Tryz.ntmps54, List.size_toArray, List.length_cons, List.length_nil, Nat.reduceAdd, Nat.reduceSub, Array.replicate_succ, Array.replicate_zero, List.push_toArray, List.append_toArray, List.nil_append, List.cons_append]
  gi_wp2
  gi_loopw [3] (fun i wr => ∃ (k : Nat) (ts : List Tok) (v : Value), k ≤ s.size ∧ i = .int .i64 k ∧ Hid (lexA s.data.toList 0 = (ts ++ (lexA s.data.toList k).1, (lexA s.data.toList k).2)) ∧ ts.length ≤ k ∧ J (ts.map (·, true)) wr ∧ Vars wr ∧
      wr.cell? ⟨Bs, 0, none⟩ = some (.string s) ∧ OutIs wr Bo v ∧ v.ownBlock ≠ some Bs)
    (fun i _ => s.size - (intOf i).toNat)
  case atStart => exact ⟨0, [], _, Nat.zero_le _, rfl, by simp [Hid], by simp, h0, hv, hBs, hO, by simp [Value.ownBlock]⟩
  case round =>
    obtain ⟨k, ts, v, hk, rfl, hL, htl, hJs, hvr, hc, hOr, hvo⟩ := hrel
    have k0 : (0 : Int) ≤ k := by omega
    have k1 : (k : Int) ≤ s.size := by omega
    have hdr : (s.extract k s.size).data.toList = s.data.toList.drop k := by
      rw [Lib.extract_data, List.take_of_length_le (by rw [List.length_drop, data_len]; omega)]
    obtain ⟨m, hm⟩ : ∃ m, runP blankB (s.data.toList.drop k) = m := ⟨_, rfl⟩
    have hmle : k + m ≤ s.size := by
      have := runP_le blankB (s.data.toList.drop k)
      rw [hm, List.length_drop, data_len] at this
      omega
    have hlen2 : ((⟨((s.data.toList.drop k).drop m).toArray⟩ : ByteArray).size : Int) = s.size - k - m := by
      have : (⟨((s.data.toList.drop k).drop m).toArray⟩ : ByteArray).size = ((s.data.toList.drop k).drop m).length := by rw [← data_len]
      rw [this, List.length_drop, List.length_drop, data_len]; omega
    have htr : ∀ w', Calls Tryz.prog 55 #[.string (s.extract k s.size), .string ⟨#[32, 10]⟩] w' fun e w'' => e = .returned (strV ((s.data.toList.drop k).drop m)) ∧ Below w'.heap.size w' w'' := fun w' => by
      have := trim_any (s.extract k s.size) w'
      rw [hdr, hm] at this
      exact this
    have hBslt : Bs < wr.heap.size := World.block_lt_of_cell? _ _ hc
    gi_wp2
    refine wpIn_wide.2 ?_
    go_region_held3 (Kp wr)
      (first | exact Kp.start _ | exact Kp.next (by assumption) hb1)
      (first
        | (go_at_call 55; (with_reducible refine (htr _).mono ?_); rintro e w1 ⟨rfl, hb1⟩)
        | fail)
    rename_i hKp
    have hwr : IntKind.i64.wrap (↑s.size - ↑(s.size - (k + m))) = ((k + m : Nat) : Int) := by
      rw [IntWalk.i64_in _ (by omega)]; omega
    rw [hwr]
    clear hwr hlen2 htr hdr hb1
    generalize hj : k + m = j at *
    have hj0 : (0 : Int) ≤ j := by omega
    have hj1 : (j : Int) ≤ s.size := by omega
    have hdr : (s.extract j s.size).data.toList = s.data.toList.drop j := by
      rw [Lib.extract_data, List.take_of_length_le (by rw [List.length_drop, data_len]; omega)]
    have hc1 : w1.cell? ⟨Bs, 0, none⟩ = some (.string s) := (hKp.2 _ _ hBslt).trans hc
    have hf := first_any (s.extract j s.size) w1 (by have := congrArg List.length hdr; rw [data_len, List.length_drop, data_len] at this; omega) (hvr.next hKp.1)
    rw [hdr] at hf
    clear hdr
    gi_wp2
    refine ⟨trivial, ?_⟩
    refine (callsIn_wide.2 hf).mono ?_
    rintro e w2 ⟨kd, t, nn, rfl, hfo, hB2⟩
    gi_wp2
    have tb := TBox.new w2 76 (.int .i64 kd) (.string { data := t.toArray }) (.int .i64 nn) (.int .i64 j)
    have hBW : Below wr.heap.size wr (w2.alloc (.cells #[.int .i64 kd, .string { data := t.toArray }, .int .i64 nn, .int .i64 j] 76)) := (hKp.1.trans (hB2.mono hKp.1.size)).alloc (by have := hKp.1.size; have := hB2.size; omega) _
    have hBt : wr.heap.size ≤ w2.heap.size := by have := hKp.1.size; have := hB2.size; omega
    generalize hW2 : World.alloc w2 _ = W2 at tb hBW ⊢
    generalize hBtt : w2.heap.size = Bt at tb hBt ⊢
    clear hW2 hBtt hB2 hKp hc1 hf
    have hJ2 := hJ _ _ _ hJs (grown_of_below hBW)
    have hO2 := hOr.below hBW
    have hc2 : W2.cell? ⟨Bs, 0, none⟩ = some (.string s) := (hBW.cell (p := ⟨Bs, 0, none⟩) hBslt).trans hc
    have hBo : Bo < wr.heap.size := World.block_lt_of_cell? _ _ hOr.1
    obtain ⟨B, hBB⟩ : ∃ B, firstOk (s.data.toList.drop j) = B := ⟨_, rfl⟩
    rw [hBB] at hfo ⊢
    obtain ⟨fn, tmps, assign, body, hy, hR⟩ := hY _ (⟨kd, t, nn, j⟩, B) W2 hJ2 (by rw [List.length_map]; omega)
    dsimp only [tkV, strV] at hy
    obtain ⟨q1, q2, q3⟩ := came_step (L := s.data.toList) (k := k) (m := m) (ts := ts) (kd := kd) (t := t) (nn := nn) hm hL.out (by rw [hj, hBB]; exact hfo)
    rw [hj, hBB] at q1 q2 q3
    have hpre : Hid (∀ x ∈ ts.map (fun x : Tok => (x, true)), x.2 = true) := by
      show ∀ x ∈ ts.map (fun x : Tok => (x, true)), x.2 = true
      intro x hx
      obtain ⟨y, _, rfl⟩ := List.mem_map.1 hx
      rfl
    rw [hy]
    gi_wp2
    refine hR.mono ?_
    clear hR hy
    rintro e W3 (⟨rfl, hJ3, hk3⟩ | ⟨rfl, hJx3⟩)
    · cases B with
      | false =>
        have hq := hid (q1 rfl)
        clear q1 q2 q3 hfo
        gi_wp2
        refine bodyPost_ret (results_none rfl _ _ _) rfl ?_
        exact ⟨⟨_, rfl⟩, .inl ⟨_, hq.out, hJ3⟩⟩
      | true =>
        have tb3 := tb.kpO hk3 hO2 (by omega) (fun e => by have := hOr.2 _ e; omega)
        have c0 := tb3.c0
        have c1 := tb3.c1
        obtain ⟨v3, hO3, hvv, hkeep⟩ := hk3.2 v hO2
        obtain ⟨os, ho1, ho2⟩ := cells_of_cell hc2
        have hs3 := hkeep Bs os ho1 ho2 hne hvo
        have hc3 : W3.cell? ⟨Bs, 0, none⟩ = some (.string s) := (World.cell?_of_block (w := W2) (a := ⟨Bs, 0, none⟩) (hs3.trans ho1.symm)).trans hc2
        by_cases h0 : kd = 0
        · have hq := hid (q2 rfl h0)
          subst h0
          clear q1 q2 q3 hfo
          gi_wp2
          refine bodyPost_ret (results_none rfl _ _ _) rfl ?_
          exact ⟨⟨_, rfl⟩, .inl ⟨_, hq.out, hJ3⟩⟩
        · obtain ⟨ht1, ht2, ht3⟩ := q3 rfl h0
          rw [data_len] at ht2
          have ht3 := hid ht3
          have hsz : ((⟨t.toArray⟩ : ByteArray).size : Int) = t.length := by rw [← data_len]
          clear q1 q2 q3 hfo
          gi_wp2
          refine ⟨⟨j + t.length, ts ++ [⟨kd, t, nn, j⟩], v3, ht2, by simp, ht3, by rw [List.length_append, List.length_singleton]; omega, by simpa using hJ3, (hvr.next hBW).below hk3.1 hn₀, hc3, hO3, ?_⟩, ?_⟩
          · rcases hvv with e | ⟨g, e, hg⟩
            · rw [e]; exact hvo
            · rw [e]
              intro e'
              have := World.block_lt_of_cell? _ _ hc2
              simp at e' this
              omega
          · simp [intOf]
            omega
    · have hq : Hid (Came (lexA s.data.toList 0) (ts.map (·, true) ++ [(⟨kd, t, nn, j⟩, B)]) ∨ ∀ x ∈ ts.map (fun x : Tok => (x, true)) ++ [(⟨kd, t, nn, j⟩, B)], x.2 = true) := by
        cases B with
        | false => exact .inl (q1 rfl)
        | true =>
          refine .inr fun x hx => ?_
          rcases List.mem_append.1 hx with hx | hx
          · exact hpre.out x hx
          · simp at hx; rw [hx]
      clear q1 q2 q3 hfo
      gi_wp2
      refine bodyPost_ret (results_none rfl _ _ _) rfl ?_
      exact ⟨⟨_, rfl⟩, .inr ⟨_, hq.out, hJx3⟩⟩
end Lx
end Go.Proofs.YtphlbbnmligadaaGreatDoor
namespace Go.Proofs.YtphlbbnmligadaaGreatDoor
namespace Lx
open Go.RowKit Go.Shelf

attribute [local go_sem] Oper.semAt_some

theorem tokens_in (n : Nat) (s : ByteArray) (w : World) :
    CallsIn Fence.wide n Tryz.prog 30 #[.string s] w fun e w' => e = .returned (.func (.func 54) #[] #[.pointer (some ⟨w.heap.size, 0, none⟩)]) ∧ w' = w.alloc (.cells #[.string s] 9) := by
  refine callsIn_of_wp Tryz.func30 rfl trivial ?_ rfl
  simp only [Tryz.ntmps30, List.size_toArray, List.length_cons, List.length_nil, Nat.reduceAdd, Nat.reduceSub, Array.replicate_succ, Array.replicate_zero, List.push_toArray, List.append_toArray, List.nil_append, List.cons_append]
  gi_wp2
  go_ret
  exact ⟨rfl, rfl⟩

theorem tokens_stops (n : Nat) (hn : 1 ≤ n) (Bs Bo n₀ : Nat) (s : ByteArray) (hs : s.size ≤ 100000) (w : World) (hv : Vars w) (hn₀ : gTop ≤ n₀) (hBs : w.cell? ⟨Bs, 0, none⟩ = some (.string s)) (hne : Bs ≠ Bo) (hO : OutIs w Bo (.slice none 0 0)) :
    SeqStopsK Fence.wide n Tryz.prog 54 #[.pointer (some ⟨Bs, 0, none⟩)] (fun x : Tok × Bool => #[tkV x.1, .bool x.2]) (KpO n₀ Bo) (Came (lexA s.data.toList 0))
      (fun pre => Came (lexA s.data.toList 0) pre ∨ ∀ x ∈ pre, x.2 = true) (s.size + 1) w := fun lo J Jx W hW hJ _ hY h0 =>
  tokens1_in n hn lo Bs Bo n₀ s hs J Jx (fun p A B h hg => hJ p A B none h hg (by simp)) hY W (hv.next hW) hn₀ ((hW.cell (p := ⟨Bs, 0, none⟩) (World.block_lt_of_cell? _ _ hBs)).trans hBs) hne (hO.below hW) h0

/-- append inside a fence, with the block of its answer. -/
theorem listIn_tk {F : Fence} {n : Nat} {w : World} {ops : Array Oper} {rest : List Oper} {o : Oper} {a : Act} {Q : Exit → Act → World → Prop} {base : Nat} (s x : Operand) (v : Value) (k : Nat) (xs : List Value) (m : Nat) (news : List Value)
    (hgd : o.guard = none) (ho : o.op = .call { callee := .builtin .append, args := #[s, x], argTypes := #[34, 34] })
    (hsv : a.eval s = v) (hown : w.ownsRow base 76 4 v k xs) (hsrc : ∃ A c, a.eval x = .slice A m c ∧ SrcAt w 4 A m news) (h1 : ∀ u ∈ news, u.oneCell' = true) (hb : k + m ≤ 100000) (hbase : base ≤ w.heap.size)
    (h : ∀ v' w', w'.ownsRow base 76 4 v' (k + m) (xs ++ news) → w.grownBy w' v.ownBlock → (v'.ownBlock = v.ownBlock ∨ v'.ownBlock = some w.heap.size) → wpListIn F n Tryz.prog ops Q rest (a.put o.dst v') w') :
    wpListIn F n Tryz.prog ops Q (o :: rest) a w := by
  obtain ⟨i0, hi, hz0, hz1, hz2⟩ := info_parts tok_info
  obtain ⟨A, c, hx, hs⟩ := hsrc
  obtain ⟨v', w', hrun, h2, h3, h4⟩ := run_app (P := Tryz.prog) o.type Tryz.underlying34 hi hz0 hz1 hz2 rfl (by decide) hown (c := c) hs h1 (by simp only [maxLen]; omega) (by omega) hbase
  refine wpListIn_plain hgd fun K hK' => ?_
  unfold Oper.wpIn
  refine ⟨?_, ?_⟩
  · simp [Oper.about, ho, resolve, Target.leads, Sem.run_pure]
  · rw [Oper.semAt_plain F _ _ (by rw [ho]; intro c hc'; cases hc')]
    simp [execOp, ho, resolve, invoke, builtin, hsv, hx, hrun, Result.andThen]
    exact hK' _ _ (h v' w' h2 h3 h4)

theorem kpO_alloc {n₀ Bo : Nat} {W : World} (hn : n₀ ≤ W.heap.size) (ob : Obj) : KpO n₀ Bo W (W.alloc ob) := by
  refine ⟨(Below.refl _ _).alloc hn _, fun v hv => ⟨v, hv.below ((Below.refl _ _).alloc (Nat.le_refl _) _), .inl rfl, fun k o hk _ _ _ => ?_⟩⟩
  rw [Below.heap_alloc _ _ _ (Array.getElem?_eq_some_iff.1 hk).1]
  exact hk

/-- A round that appends keeps what the iterator wants. -/
theorem kpO_app {n₀ Bo : Nat} {W w1 : World} {t : TypeId} {v v' : Value} {tmp : Obj} {B : Nat} {e : TypeId} {size m k : Nat} {xs ys : List Value} (hB : Below n₀ W (w1.setCell ⟨Bo, 0, none⟩ v')) (hv : Boxed W Bo t v) (_ : W.ownsRow B e size v k xs)
    (hv2 : Boxed (w1.setCell ⟨Bo, 0, none⟩ v') Bo t v') (hrow2 : (w1.setCell ⟨Bo, 0, none⟩ v').ownsRow B e size v' m ys) (hg : (W.alloc tmp).grownBy w1 v.ownBlock) (hat : v'.ownBlock = v.ownBlock ∨ v'.ownBlock = some (W.alloc tmp).heap.size) : KpO n₀ Bo W (w1.setCell ⟨Bo, 0, none⟩ v') := by
  refine ⟨hB, fun u hu => ?_⟩
  have hc := hv.cell
  rw [hu.1] at hc
  cases hc
  refine ⟨v', ⟨hv2.cell, fun g e => (hrow2.lt g e).2⟩, ?_, fun i o hi _ hb hn => ?_⟩
  · rcases hat with e | e
    · exact .inl e
    · exact .inr ⟨_, e, by simp⟩
  · have hlt := (Array.getElem?_eq_some_iff.1 hi).1
    rw [Below.heap_setCell _ _ _ _ hb, hg.block i (by simp; omega) (fun e => hn e.symm), Below.heap_alloc _ _ _ hlt]
    exact hi
/-- What Lex answers: the tokens, the error, its place. -/
def lexR (L : List UInt8) : List Tok × Int × Int :=
  if 10000 < L.length then ([], 2, 0) else match (lexA L 0).2 with | none => ((lexA L 0).1, 0, 0) | some j => ([], 20, j)
def LexPost (L : List UInt8) (w : World) (e : Ending) (w' : World) : Prop :=
  ∃ a cap, e = .returned (.tuple #[.slice a (lexR L).1.length cap, .int .i64 (lexR L).2.1, .int .i64 (lexR L).2.2]) ∧ TkIn w' (fun b => w.heap.size ≤ b ∧ b < w'.heap.size) a (lexR L).1.length cap (lexR L).1 ∧ Below w.heap.size w w'

/-- No place without a token has come. -/
def AllOk (ys : List (Tok × Bool)) : Prop := ∀ x ∈ ys, x.2 = true
theorem came_ok {L : List UInt8} {ys : List (Tok × Bool)} (h : Came (lexA L 0) ys) (hl : ¬ 10000 < L.length) (ho : ∀ x ∈ ys, x.2 = true) : lexR L = (ys.map (·.1), 0, 0) := by
  unfold Came at h
  unfold lexR
  rw [if_neg hl]
  cases hx : (lexA L 0).2 with
  | none =>
    simp only [hx] at h
    subst h
    simp only [List.map_map]
    have : ((fun x : Tok × Bool => x.1) ∘ fun x : Tok => (x, true)) = id := rfl
    rw [this, List.map_id]
  | some j =>
    simp only [hx] at h
    obtain ⟨t, _, rfl⟩ := h
    have := ho (t, false) (by simp)
    cases this
theorem came_no {L : List UInt8} {ys : List (Tok × Bool)} {x : Tok × Bool} (h : Came (lexA L 0) (ys ++ [x])) (hl : ¬ 10000 < L.length) (hx : x.2 = false) : lexR L = ([], 20, (x.1.place : Int)) := by
  unfold Came at h
  unfold lexR
  rw [if_neg hl]
  cases hn : (lexA L 0).2 with
  | none =>
    simp only [hn] at h
    have : x ∈ (lexA L 0).1.map (fun x : Tok => (x, true)) := by rw [← h]; simp
    obtain ⟨y, _, rfl⟩ := List.mem_map.1 this
    cases hx
  | some j =>
    simp only [hn] at h
    obtain ⟨t, ht, he⟩ := h
    obtain ⟨_, he⟩ := List.append_inj' he rfl
    simp at he
    subst he
    rw [ht]

set_option maxRecDepth 100000 in
set_option maxHeartbeats 4000000 in
theorem lex_in (n : Nat) (hn : 3 ≤ n) (s : ByteArray) (w : World) (hv : Vars w) :
    CallsIn Fence.wide n Tryz.prog 13 #[.string s] w (LexPost s.data.toList w) := by
  have h1 : 1 ≤ n := by omega
  by_cases hlong : 10000 < s.size
  · have hfin : Hid (∀ w', Below w.heap.size w w' → LexPost s.data.toList w (.returned (.tuple #[.slice none 0 0, .int .i64 2, .int .i64 0])) w') := fun w' hB => by
      have : lexR s.data.toList = ([], 2, 0) := by unfold lexR; rw [if_pos (by rw [data_len]; exact hlong)]
      unfold LexPost
      rw [this]
      exact ⟨none, 0, rfl, TkIn.nil_, hB⟩
    have hl' : (10000 : Int) < s.size := by omega
    have hl2 : ¬ (s.size : Int) ≤ 10000 := by omega
    clear hlong
    refine callsIn_of_wp_marks Tryz.func13 rfl trivial ?_ rfl
    simp only [Tryz.ntmps13, List.size_toArray, List.length_cons, List.length_nil, Nat.reduceAdd, Nat.reduceSub, Array.replicate_succ, Array.replicate_zero, List.push_toArray, List.append_toArray, List.nil_append, List.cons_append]
    gi_wp2
    exact ⟨.tuple #[.slice none 0 0, .int .i64 2, .int .i64 0], by simp [results, Tryz.results13, go_sem], hfin.out _ ((((Below.refl _ w).alloc (Nat.le_refl _) _).alloc (by simp) _).alloc (by simp; omega) _)⟩
  · have hs : s.size ≤ 10000 := by omega
    have hs' : (s.size : Int) ≤ 10000 := by omega
    have hl10 : ¬ 10000 < s.data.toList.length := hlong
    have Hl10 := hid hl10
    clear hlong hl10
    refine callsIn_of_wp_marks Tryz.func13 rfl trivial ?_ rfl
    simp only [Tryz.ntmps13, List.size_toArray, List.length_cons, List.length_nil, Nat.reduceAdd, Nat.reduceSub, Array.replicate_succ, Array.replicate_zero, List.push_toArray, List.append_toArray, List.nil_append, List.cons_append]
    have hs2 : decide ((10000 : Int) < s.size) = false := decide_eq_false (by omega)
    gi_wp2
    refine ⟨trivial, ?_⟩
    refine (tokens_in (n - 1) s _).mono ?_
    rintro e w' ⟨rfl, rfl⟩
    gi_wp2
    have bO := Boxed.new w 34 (.slice none 0 0)
    have bE := Boxed.new (w.alloc (.cells #[.slice none 0 0] 34)) 31 (.int .i64 0)
    have bA := Boxed.new ((w.alloc (.cells #[.slice none 0 0] 34)).alloc (.cells #[.int .i64 0] 31)) 3 (.int .i64 0)
    have bS := Boxed.new (((w.alloc (.cells #[.slice none 0 0] 34)).alloc (.cells #[.int .i64 0] 31)).alloc (.cells #[.int .i64 0] 3)) 9 (.string s)
    have bO := ((bO.alloc (.cells #[.int .i64 0] 31)).alloc (.cells #[.int .i64 0] 3)).alloc (.cells #[.string s] 9)
    have bE := (bE.alloc (.cells #[.int .i64 0] 3)).alloc (.cells #[.string s] 9)
    have bA := bA.alloc (.cells #[.string s] 9)
    simp only [World.size_alloc] at bO bE bA bS
    have hB0 : Below w.heap.size w ((((w.alloc (.cells #[.slice none 0 0] 34)).alloc (.cells #[.int .i64 0] 31)).alloc (.cells #[.int .i64 0] 3)).alloc (.cells #[.string s] 9)) := ((((Below.refl _ w).alloc (Nat.le_refl _) _).alloc (by simp) _).alloc (by simp; omega) _).alloc (by simp; omega) _
    have hsz : ((((w.alloc (.cells #[.slice none 0 0] 34)).alloc (.cells #[.int .i64 0] 31)).alloc (.cells #[.int .i64 0] 3)).alloc (.cells #[.string s] 9)).heap.size = w.heap.size + 4 := by simp
    obtain ⟨W0, hW0⟩ : ∃ W0, ((((w.alloc (.cells #[.slice none 0 0] 34)).alloc (.cells #[.int .i64 0] 31)).alloc (.cells #[.int .i64 0] 3)).alloc (.cells #[.string s] 9)) = W0 := ⟨_, rfl⟩
    rw [hW0] at bO bE bA bS hB0 hsz ⊢
    clear hW0
    have hO0 : OutIs W0 w.heap.size (.slice none 0 0) := ⟨bO.cell, fun g e => by simp [Value.ownBlock] at e⟩
    have hle : w.heap.size ≤ W0.heap.size := hB0.size
    refine wpIn_rangeFunc_ownH rfl h1 (gf := 54) (lb := #[.pointer (some ⟨w.heap.size + 1 + 1 + 1, 0, none⟩)]) rfl trivial (enters_of Tryz.func54 (by kernel_rfl) rfl)
      (tokens_stops (n - 1) (by omega) (w.heap.size + 1 + 1 + 1) w.heap.size w.heap.size s (by omega) W0 (hv.next hB0) hv.size bS.cell (by omega) hO0) kpO_t (kpO_b hle) (Below.refl _ _) (fun _ => rfl)
      (fun pre W => ((((∃ v, Boxed W w.heap.size 34 v ∧ W.ownsRow w.heap.size 76 4 v pre.length ((pre.map (·.1)).flatMap tkC) ∧ True) ∧ AllOk pre) ∧ Boxed W (w.heap.size + 1) 31 (.int .i64 0)) ∧ Boxed W (w.heap.size + 1 + 1) 3 (.int .i64 0)) ∧ Below w.heap.size w W ∧ w.heap.size + 4 ≤ W.heap.size)
      (fun c pre W => (c = .ret ∧ ∃ ini last, pre = ini ++ [last] ∧ last.2 = false ∧ W.cell? ⟨w.heap.size, 0, none⟩ = some (.slice none 0 0) ∧ W.cell? ⟨w.heap.size + 1, 0, none⟩ = some (.int .i64 20) ∧ W.cell? ⟨w.heap.size + 1 + 1, 0, none⟩ = some (.int .i64 last.1.place)) ∧ Below w.heap.size w W)
      (OwnFrom.and (Own.from (fun s A B row hs hg hr => ⟨⟨⟨holdsRow_own w.heap.size w.heap.size 34 76 4 (fun pre : List (Tok × Bool) => pre.length) (fun pre => (pre.map (·.1)).flatMap tkC) (fun _ _ => True) s A B row hs.1.1.1 hg hr, hs.1.1.2⟩, boxed_own _ _ (fun (_ : Unit) => Value.int .i64 0) () A B row hs.1.2 hg hr⟩, boxed_own _ _ (fun (_ : Unit) => Value.int .i64 0) () A B row hs.2 hg hr⟩) _) (OwnFrom.and (ownFrom_below (Nat.le_refl _) (by omega)) (fun _ _ _ _ hs hg _ => Nat.le_trans hs hg.size)))
      (fun c => OwnFrom.and (Own.from (fun s A B row hs hg hr => by obtain ⟨hc, ini, last, e1, e2, e3, e4, e5⟩ := hs; exact ⟨hc, ini, last, e1, e2, cell_kept e3 hg hr, cell_kept e4 hg hr, cell_kept e5 hg hr⟩) _) (ownFrom_below (Nat.le_refl _) (by omega)))
      ⟨⟨⟨⟨⟨_, bO, World.ownsRow_nil _ _ _ _, trivial⟩, fun _ h => (by simp at h)⟩, bE⟩, bA⟩, hB0, by omega⟩
      (fun x a' W => ∃ Bx, w.heap.size + 1 + 1 < Bx ∧ TBox W Bx (.int .i64 x.1.kind) (strV x.1.text) (.int .i64 x.1.n) (.int .i64 x.1.place) ∧ a' = { tmps := #[.string s, undef, .pointer (some ⟨w.heap.size, 0, none⟩), .pointer (some ⟨w.heap.size + 1, 0, none⟩), .pointer (some ⟨w.heap.size + 1 + 1, 0, none⟩), .pointer (some ⟨Bx, 0, none⟩), .bool x.2, .string s, .int .i64 s.size, .bool false, .string s, .func (.func 54) #[] #[.pointer (some ⟨w.heap.size + 1 + 1 + 1, 0, none⟩)], tkV x.1, .bool x.2, undef, undef, undef, undef, undef, undef, undef, undef, undef], defers := [] })
      (fun x a' _ X Y row hs hg hr => by
        obtain ⟨Bx, h1, h2, h4⟩ := hs
        obtain ⟨o, ho1, ho2⟩ := cells_of_cell h2.c0
        refine ⟨Bx, h1, h2.block hg.size (hg.block Bx h2.lt (fun e => ?_)), h4⟩
        obtain ⟨_, o', k1, k2⟩ := hr Bx e.symm
        rw [ho1] at k1; cases k1
        rw [ho2] at k2; cases k2)
      ?assign ?body ?done ?stop
    case assign =>
      rintro l' pre x W K ⟨⟨⟨⟨⟨v, hvB, hrow, _⟩, hp⟩, bE1⟩, bA1⟩, hB1, hS1⟩ hK
      gi_wp2
      exact hK _ _ ((KeepsOthers.alloc _ _).from _) (kpO_alloc hB1.size _) ⟨⟨⟨⟨⟨v, hvB.alloc _, hrow.alloc _, trivial⟩, hp⟩, bE1.alloc _⟩, bA1.alloc _⟩, hB1.alloc hB1.size _, by simp; omega⟩ ⟨W.heap.size, bA1.lt, TBox.new W _ _ _ _ _, rfl⟩
    case body =>
      rintro l' pre x a' W hl' ⟨r, hr⟩ ⟨⟨⟨⟨⟨v, hvB, hrow, _⟩, hp⟩, bE1⟩, bA1⟩, hB1, hS1⟩ ⟨Bx, hBx, tb, rfl⟩ hlt
      have c0 := tb.c0
      have c1 := tb.c1
      have c2 := tb.c2
      have c3 := tb.c3
      have cO := hvB.cell
      have fO := hvB.frozen
      have cE := bE1.cell
      have fE := bE1.frozen
      have cA := bA1.cell
      have fA := bA1.frozen
      obtain ⟨x, ok⟩ := x
      cases ok with
      | false =>
        have hmix : Tryz.prog.follows .mixedOrders = true := by kernel_rfl
        gi_wp2
        gi_region_with_o (fail)
        all_goals gi_wp2
        all_goals exact ⟨((((KeepsOthers.setCell _ _ _).trans (KeepsOthers.setCell _ _ _)).trans (KeepsOthers.setCell _ _ _)).trans (KeepsOthers.drew _)).from _, ⟨rfl, pre, (x, false), rfl, rfl, by go_simp, by go_simp, by go_simp⟩, (((hB1.setCell (p := ⟨w.heap.size, 0, none⟩) (Nat.le_refl _) _).setCell (p := ⟨w.heap.size + 1, 0, none⟩) (by simp) _).setCell (p := ⟨w.heap.size + 1 + 1, 0, none⟩) (by simp; omega) _).drew⟩
      | true =>
        have hb100 : pre.length + 1 ≤ 100000 := by omega
        gi_wp2_with (gi_at_builtin
                     refine listIn_tk (base := w.heap.size) (.tmp 18) (.tmp 20) v pre.length ((pre.map (·.1)).flatMap tkC) 1 (tkC x) ?_ ?_ ?_ ?_ ?_ ?_ ?_ ?_ ?_
                     (focus rfl); (focus rfl); (focus rfl); (focus exact hrow.alloc _); (focus exact ⟨_, _, rfl, src_new (news := tkC x) rfl⟩); (focus exact tkC_one1 x); (focus exact hb100); (focus (have := hB1.size; simp; omega))
                     intro v' w1 hown' hg hat
                     obtain ⟨g', cap', rfl⟩ := ownsRow_succ hown'
                     obtain ⟨hv1, hv2, hr2, hk2, hb2⟩ := hvB.appended (by decide) hrow hB1.size (Nat.le_refl _) hown' hg
                     have hc1 := hv1.cell
                     have hf1 := hv1.frozen)
        have hE2 := ((bE1.alloc (.cells #[.int .i64 x.kind, strV x.text, .int .i64 x.n, .int .i64 x.place] 76)).kept hg (bE1.not_row (by decide) hrow)).other (B' := w.heap.size) (by omega) (.slice (some ⟨g', 0, none⟩) (pre.length + 1) cap')
        have hA2 := ((bA1.alloc (.cells #[.int .i64 x.kind, strV x.text, .int .i64 x.n, .int .i64 x.place] 76)).kept hg (bA1.not_row (by decide) hrow)).other (B' := w.heap.size) (by omega) (.slice (some ⟨g', 0, none⟩) (pre.length + 1) cap')
        have hp2 : AllOk (pre ++ [(x, true)]) := by
          intro y hy
          rcases List.mem_append.1 hy with hy | hy
          · exact hp y hy
          · simp at hy; rw [hy]
        have l1 : (pre ++ [(x, true)]).length = pre.length + 1 := by simp
        have l2 : ((pre ++ [(x, true)]).map (·.1)).flatMap tkC = (pre.map (·.1)).flatMap tkC ++ tkC x := by simp
        refine ⟨hk2.from _, kpO_app hb2 hvB hrow hv2 hr2 hg hat, ⟨⟨⟨⟨_, hv2, by rw [l1, l2]; exact hr2⟩, hp2⟩, hE2⟩, hA2⟩, hB1.trans hb2, Nat.le_trans hS1 hb2.size⟩
    case done =>
      rintro D ys W hD hCame ⟨⟨⟨⟨⟨v, hvB, hrow, _⟩, hp⟩, bE1⟩, bA1⟩, hB1, hS1⟩ hK
      have hr := hid (came_ok hCame Hl10.out hp)
      have hrow' : TkO W w.heap.size v (ys.map (·.1)) := by
        unfold TkO
        rw [List.length_map]
        exact hrow
      obtain ⟨a, cap, rfl, hin⟩ := hrow'.in_
      have cO := hvB.cell
      have fO := hvB.frozen
      have cE := bE1.cell
      have fE := bE1.frozen
      have cA := bA1.cell
      have fA := bA1.frozen
      clear hp hCame
      have hin := hid hin
      gi_wp2
      have hlen : (ys.map (·.1)).length = ys.length := List.length_map ..
      have hK' := (((KeepsOthers.setCell W ⟨w.heap.size, 0, none⟩ (.slice a ys.length cap)).trans (KeepsOthers.setCell _ ⟨w.heap.size + 1, 0, none⟩ (.int .i64 0))).trans (KeepsOthers.setCell _ ⟨w.heap.size + 1 + 1, 0, none⟩ (.int .i64 0))).same D _ hK rfl
      refine ⟨by simp, .inl ⟨_, _, rfl, run_takeDeferred hK', ?_⟩⟩
      have d0 : (((W.setCell ⟨w.heap.size, 0, none⟩ (.slice a ys.length cap)).setCell ⟨w.heap.size + 1, 0, none⟩ (.int .i64 0)).setCell ⟨w.heap.size + 1 + 1, 0, none⟩ (.int .i64 0)).cell? ⟨w.heap.size, 0, none⟩ = some (.slice a ys.length cap) := by go_simp
      have d1 : (((W.setCell ⟨w.heap.size, 0, none⟩ (.slice a ys.length cap)).setCell ⟨w.heap.size + 1, 0, none⟩ (.int .i64 0)).setCell ⟨w.heap.size + 1 + 1, 0, none⟩ (.int .i64 0)).cell? ⟨w.heap.size + 1, 0, none⟩ = some (.int .i64 0) := by go_simp
      have d2 : (((W.setCell ⟨w.heap.size, 0, none⟩ (.slice a ys.length cap)).setCell ⟨w.heap.size + 1, 0, none⟩ (.int .i64 0)).setCell ⟨w.heap.size + 1 + 1, 0, none⟩ (.int .i64 0)).cell? ⟨w.heap.size + 1 + 1, 0, none⟩ = some (.int .i64 0) := by go_simp
      have hB2 := ((hB1.setCell (p := ⟨w.heap.size, 0, none⟩) (Nat.le_refl _) (.slice a ys.length cap)).setCell (p := ⟨w.heap.size + 1, 0, none⟩) (by simp) (.int .i64 0)).setCell (p := ⟨w.heap.size + 1 + 1, 0, none⟩) (by simp; omega) (.int .i64 0)
      have hrow2 : TkO (((W.setCell ⟨w.heap.size, 0, none⟩ (.slice a ys.length cap)).setCell ⟨w.heap.size + 1, 0, none⟩ (.int .i64 0)).setCell ⟨w.heap.size + 1 + 1, 0, none⟩ (.int .i64 0)) w.heap.size (.slice a ys.length cap) (ys.map (·.1)) := by
        unfold TkO at hrow' ⊢
        rw [hlen] at hrow' ⊢
        have q0 := hrow'.kept (grownBy_setCell' W w.heap.size (.slice a ys.length cap)) (.inr (by rw [← hlen]; exact (hvB.not_row (by decide) hrow).symm))
        have q1 := q0.kept (grownBy_setCell' _ (w.heap.size + 1) (.int .i64 0)) (.inr (by
          have := bE1.not_row (by decide) hrow
          rw [hlen] at this
          exact this.symm))
        exact q1.kept (grownBy_setCell' _ (w.heap.size + 1 + 1) (.int .i64 0)) (.inr (by
          have := bA1.not_row (by decide) hrow
          rw [hlen] at this
          exact this.symm))
      generalize World.setCell (World.setCell (World.setCell W _ _) _ _) _ _ = W2 at hK' d0 d1 d2 hB2 hrow2 ⊢
      have g0 := cell_kept d0 (grownBy_putObj' _ D (.deferred none)) (fun r e => by cases e; exact ⟨_, hK', rfl⟩)
      have g1 := cell_kept d1 (grownBy_putObj' _ D (.deferred none)) (fun r e => by cases e; exact ⟨_, hK', rfl⟩)
      have g2 := cell_kept d2 (grownBy_putObj' _ D (.deferred none)) (fun r e => by cases e; exact ⟨_, hK', rfl⟩)
      have hrow3 : TkO (W2.putObj D (.deferred none)) w.heap.size (.slice a ys.length cap) (ys.map (·.1)) := ownsRow_putObj hrow2 _ hK' rfl
      obtain ⟨a', cap', he, hin3⟩ := hrow3.in_
      rw [hlen] at he
      obtain ⟨rfl, rfl⟩ : a = a' ∧ cap = cap' := by simpa using he
      refine ⟨.tuple #[.slice a ys.length cap, .int .i64 0, .int .i64 0], by simp [results, Tryz.results13, go_sem, g0, g1, g2], ?_⟩
      unfold LexPost
      rw [hr.out]
      exact ⟨a, cap, by rw [hlen], hin3, hB2.trans (belowK_b (w := w) (Nat.le_refl _) _ D _ _ (by omega) hK' rfl rfl)⟩
    case stop =>
      rintro D c pre W hD hSp ⟨⟨rfl, ini, last, e1, e2, e3, e4, e5⟩, hB1⟩ hK
      have hr : Hid (lexR s.data.toList = ([], 20, (last.1.place : Int))) := by
        rcases hSp with h | h
        · rw [e1] at h
          exact came_no h Hl10.out e2
        · have := h last (by rw [e1]; simp)
          rw [e2] at this
          cases this
      gi_wp2
      refine ⟨by simp, .inl ⟨_, _, rfl, run_takeDeferred hK, ?_⟩⟩
      have g1 := cell_kept e3 (grownBy_putObj' _ D (.deferred none)) (fun r e => by cases e; exact ⟨_, hK, rfl⟩)
      have g2 := cell_kept e4 (grownBy_putObj' _ D (.deferred none)) (fun r e => by cases e; exact ⟨_, hK, rfl⟩)
      have g3 := cell_kept e5 (grownBy_putObj' _ D (.deferred none)) (fun r e => by cases e; exact ⟨_, hK, rfl⟩)
      refine ⟨.tuple #[.slice none 0 0, .int .i64 20, .int .i64 last.1.place], by simp [results, Tryz.results13, go_sem, g1, g2, g3], ?_⟩
      unfold LexPost
      rw [hr.out]
      exact ⟨none, 0, rfl, TkIn.nil_, hB1.trans (belowK_b (w := w) (Nat.le_refl _) _ D _ _ (by omega) hK rfl rfl)⟩

theorem lex_any (s : ByteArray) (w : World) (hv : Vars w) : Calls Tryz.prog 13 #[.string s] w (LexPost s.data.toList w) :=
  callsIn_wide.1 (lex_in 3 (Nat.le_refl _) s w hv)
end Lx
end Go.Proofs.YtphlbbnmligadaaGreatDoor
namespace Go.Proofs.YtphlbbnmligadaaGreatDoor
namespace Lx
open Go.RowKit

theorem err_row (u : TypeId) (h : Tryz.prog.typeName? 3 u = some "*errors.errorString") : u = 212 :=
  typeName_ptr_named (nm := "errors.errorString") (by rw [show "*" ++ "errors.errorString" = "*errors.errorString" from by decide]; kernel_rfl) (by kernel_rfl) (by decide) u (by rw [show "*" ++ "errors.errorString" = "*errors.errorString" from by decide]; exact h)

theorem vars_of {l : List (String × DataW Unit)} {W : World} (h : laidMetH Tryz.prog l W)
    (h1 : l.filter (fun x => x.1 == "internal/strconv.uint64pow10") = [("internal/strconv.uint64pow10", Lib.tabData .u64 Lib.pow10Tab)])
    (h2 : l.filter (fun x => x.1 == "strconv.ErrRange") = [("strconv.ErrRange", .iface "*errors.errorString" (.ptr (.agg [.lit (.string [118, 97, 108, 117, 101, 32, 111, 117, 116, 32, 111, 102, 32, 114, 97, 110, 103, 101])])))]) : Vars W := by
  have k1 := h.filter (fun x => x.1 == "internal/strconv.uint64pow10")
  have k2 := h.filter (fun x => x.1 == "strconv.ErrRange")
  rw [h1, MakeChecks.laidMetH_plain _ _ _ (by decide)] at k1
  rw [h2, MakeChecks.laidMetH_plain _ _ _ (by decide)] at k2
  refine ⟨Lib.tabIs_of_head gTab_eq (by kernel_rfl) Tryz.underlying177 Tryz.underlying156 (by kernel_rfl) (by kernel_rfl) k1, ?_⟩
  obtain ⟨a0, s0, hv0, -, -, -⟩ := laid_sentinel k2 gErr_eq (by kernel_rfl) Tryz.underlying99 err_row Tryz.underlying212 Tryz.underlying214 rfl rfl Tryz.underlying9 (by kernel_rfl) (by kernel_rfl)
  exact ⟨_, _, hv0⟩
end Lx
end Go.Proofs.YtphlbbnmligadaaGreatDoor
