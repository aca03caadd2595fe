/- The token ahead of a text: first. -/
import Derived.Test.YtogopcejapklgaaGreatDoorLexC
import Derived.BigRegion
import Derived.Deep.RegionHeld3
namespace Go.Proofs.YtogopcejapklgaaGreatDoor
open Go.RowKit

theorem indexByte_iff : ∀ (l : List UInt8) (c : UInt8), 0 ≤ Lib.indexByte l c ↔ c ∈ l
  | [], c => by simp [Lib.indexByte]
  | b :: l, c => by
    have ih := indexByte_iff l c
    have hge := Lib.indexByte_ge l c
    simp only [Lib.indexByte, List.mem_cons]
    by_cases h : b = c
    · subst h; simp
    · have h1 : ¬ (b == c) = true := by simpa using h
      have h2 : ¬ c = b := fun e => h e.symm
      rw [if_neg h1]
      simp only [h2, false_or, ← ih]
      by_cases h3 : Lib.indexByte l c = -1
      · rw [h3]; decide
      · have h4 : ¬ (Lib.indexByte l c == -1) = true := by simpa using h3
        rw [if_neg h4]
        omega
theorem indexByte_has (l : List UInt8) (c : UInt8) : decide (0 ≤ Lib.indexByte l c) = l.contains c := by
  rw [Bool.eq_iff_iff, decide_eq_true_eq, List.contains_iff_mem, indexByte_iff]

theorem two_eq (l : List UInt8) : two l = (Lib.hasPrefix l [61, 61] || Lib.hasPrefix l [33, 61]) := by
  unfold two Lib.hasPrefix
  split
  · simp [List.isPrefixOf]
  · simp [List.isPrefixOf]
  · rename_i h1 h2
    rcases l with _ | ⟨a, _ | ⟨b, l⟩⟩
    · rfl
    · simp [List.isPrefixOf]
    · have e1 : ¬ (a = 61 ∧ b = 61) := fun ⟨e, f⟩ => h1 l (by rw [e, f])
      have e2 : ¬ (a = 33 ∧ b = 61) := fun ⟨e, f⟩ => h2 l (by rw [e, f])
      simp only [List.isPrefixOf, Bool.and_true]
      by_cases f1 : b = 61
      · have g1 : ¬ a = 61 := fun e => e1 ⟨e, f1⟩
        have g2 : ¬ a = 33 := fun e => e2 ⟨e, f1⟩
        have k1 : ((61 : UInt8) == a) = false := by simpa using fun e => g1 e.symm
        have k2 : ((33 : UInt8) == a) = false := by simpa using fun e => g2 e.symm
        simp [k1, k2]
      · have k1 : ((61 : UInt8) == b) = false := by simpa using fun e => f1 e.symm
        simp [k1]

theorem prefix_any (s p : ByteArray) (w : World) :
    Calls Tryz.prog 77 #[.string s, .string p] w fun e w' => e = .returned (.bool (Lib.hasPrefix s.data.toList p.data.toList)) ∧ w = w' :=
  (strings_HasPrefix s p w).mono fun _ _ h => ⟨h.1, h.2.symm⟩
theorem sign_any (c : UInt8) (w : World) :
    Calls Tryz.prog 78 #[.string ⟨#[43, 45, 42, 60, 38, 124, 61, 40, 41, 123, 125, 59, 44]⟩, .int .u8 c.toNat] w fun e w' => (∃ x, e = .returned (.int .i64 x) ∧ decide (0 ≤ x) = signB c) ∧ w = w' := by
  refine (strings_IndexByte _ _ w).mono ?_
  rintro e w' ⟨rfl, rfl⟩
  refine ⟨⟨_, rfl, ?_⟩, rfl⟩
  rw [indexByte_has]
  have : (c.toNat : Int).toNat.toUInt8 = c := by simp
  rw [this]
  rfl

/-- What first says of a text. -/
def firstOk (l : List UInt8) : Bool := match l with | [] => true | _ => (headT l).isSome
def firstT (l : List UInt8) : Tok := match headT l with | some (k, n, v) => ⟨k, l.take n, v, 0⟩ | none => ⟨0, [], 0, 0⟩
def FirstPost (l : List UInt8) (w : World) (e : Ending) (w' : World) : Prop :=
  ∃ k t n, e = .returned (.tuple #[.agg #[.int .i64 k, strV t, .int .i64 n, .int .i64 0], .bool (firstOk l)]) ∧ (firstOk l = true → k = (firstT l).kind ∧ t = (firstT l).text ∧ n = (firstT l).n) ∧ Below w.heap.size w w'

theorem FirstPost.of {l : List UInt8} {w w' : World} {k n : Int} {t : List UInt8} {b : Bool} (h : b = firstOk l) (hk : b = true → k = (firstT l).kind ∧ t = (firstT l).text ∧ n = (firstT l).n) (hB : Below w.heap.size w w') :
    FirstPost l w (.returned (.tuple #[.agg #[.int .i64 k, strV t, .int .i64 n, .int .i64 0], .bool b])) w' := by
  subst h
  exact ⟨k, t, n, rfl, hk, hB⟩

set_option maxRecDepth 100000 in
set_option maxHeartbeats 4000000 in
theorem first_any (s : ByteArray) (w : World) (hs : s.size ≤ 100000) (hv : Vars w) :
    Calls Tryz.prog 45 #[.string s] w (FirstPost s.data.toList w) := by
  have hB1 : Below w.heap.size w (w.alloc (.cells #[.int .i64 0, .string { data := #[] }, .int .i64 0, .int .i64 0] 41)) := (Below.refl _ w).alloc (Nat.le_refl _) _
  cases hl : s.data.toList with
  | nil =>
    have he : s.toList.isEmpty = true := by rw [Lib.toList_data, hl]; rfl
    have hfin : Hid (∀ w', Below w.heap.size w w' → FirstPost [] w (.returned (.tuple #[.agg #[.int .i64 0, .string { data := #[] }, .int .i64 0, .int .i64 0], .bool true])) w') := fun w' hB =>
      FirstPost.of (l := []) (k := 0) (n := 0) (t := []) (b := true) rfl (fun _ => ⟨rfl, rfl, rfl⟩) hB
    clear hl
    go_enter Tryz.func45, Tryz.ntmps45
    go_wp2_with fail
    refine bodyPost_ret ?_ rfl (hfin.out _ hB1)
    simp [results, Tryz.results45, go_sem]
  | cons c r =>
    have hne : s.toList.isEmpty = false := by rw [Lib.toList_data, hl]; rfl
    have h1 : 1 ≤ s.size := by rw [← data_len, hl]; simp
    have hc : s[0] = c := by
      have := drop_byte s 0 h1
      rw [List.drop_zero, hl] at this
      exact (List.cons.inj this).1.symm
    have hcz : (s[0].toNat : Int) = c.toNat := by rw [hc]
    have ht : ∀ n, (s.extract 0 n) = ⟨((c :: r).take n).toArray⟩ := fun n => by
      have := ext_take s n
      rw [hl] at this
      rw [← this, ← bytes_eq]
    have i0 : (0 : Int) < s.size := by omega
    have i1 : (1 : Int) ≤ s.size := by omega
    by_cases hL : letterB c = true
    · have hrun := run_part s (w.alloc (.cells #[.int .i64 0, .string { data := #[] }, .int .i64 0, .int .i64 0] 41)) hs
      obtain ⟨n, hn⟩ : ∃ n, runP partB s.data.toList = n := ⟨_, rfl⟩
      have hle : n ≤ s.size := by rw [← hn, ← data_len]; exact runP_le _ _
      have hle' : (n : Int) ≤ s.size := by omega
      have hn0 : (0 : Int) ≤ n := by omega
      rw [hn] at hrun
      have hT : headT (c :: r) = some (1, n, 0) := by
        simp only [headT]
        rw [if_pos hL, ← hl, hn]
      have hfin : Hid (∀ w', Below w.heap.size w w' → FirstPost (c :: r) w (.returned (.tuple #[.agg #[.int .i64 1, .string (s.extract 0 n), .int .i64 0, .int .i64 0], .bool true])) w') := fun w' hB => by
        rw [ht]
        exact FirstPost.of (b := true) (by simp [firstOk, hT]) (fun _ => by simp [firstT, hT]) hB
      have hlet := letter_any c (w.alloc (.cells #[.int .i64 0, .string { data := #[] }, .int .i64 0, .int .i64 0] 41))
      rw [hL, ← hc] at hlet
      clear hT ht hl hn hc hcz
      go_enter Tryz.func45, Tryz.ntmps45
      go_wp2_with (first
        | (go_at_call 72; refine hlet.mono ?_; rintro e w1 ⟨rfl, rfl⟩)
        | (go_at_call 73; refine hrun.mono ?_; rintro e w1 ⟨rfl, rfl⟩)
        | fail)
      refine bodyPost_ret ?_ rfl (hfin.out _ ?_)
      · simp [results, Tryz.results45, go_sem]
      · exact (Below.refl _ w).alloc (Nat.le_refl _) _
    · have hL' : letterB c = false := by simpa using hL
      have hlet := letter_any c (w.alloc (.cells #[.int .i64 0, .string { data := #[] }, .int .i64 0, .int .i64 0] 41))
      rw [hL', ← hc] at hlet
      have hdigc := digit_any c (w.alloc (.cells #[.int .i64 0, .string { data := #[] }, .int .i64 0, .int .i64 0] 41))
      rw [← hc] at hdigc
      by_cases hD : digitB c = true
      · rw [hc, hD, ← hc] at hdigc
        have hnum := number_any s (w.alloc (.cells #[.int .i64 0, .string { data := #[] }, .int .i64 0, .int .i64 0] 41)) hs ⟨c, r, hl, hD⟩ (hv.next hB1)
        rw [hl] at hnum
        have hT : headT (c :: r) = if 6 < runP digitB (c :: r) ∨ 1 < runP digitB (c :: r) ∧ c = 48 then none else some (2, runP digitB (c :: r), numLx ((c :: r).take (runP digitB (c :: r)))) := by
          simp only [headT]
          rw [if_neg hL, if_pos hD]
        have hok : numOk (c :: r) = firstOk (c :: r) := by
          unfold numOk firstOk
          simp only [hT, List.head?_cons, Option.some.injEq]
          by_cases hx : 6 < runP digitB (c :: r) ∨ 1 < runP digitB (c :: r) ∧ c = 48
          · rw [if_pos hx]; simp [hx]
          · rw [if_neg hx, decide_eq_true hx]; rfl
        have tb1 := TBox.new w 41 (.int .i64 0) (.string { data := #[] }) (.int .i64 0) (.int .i64 0)
        have hfin : Hid (∀ n w', (numOk (c :: r) = true → n = numLx ((c :: r).take (runP digitB (c :: r)))) → Below w.heap.size w w' → FirstPost (c :: r) w (.returned (.tuple #[.agg #[.int .i64 2, strV ((c :: r).take (runP digitB (c :: r))), .int .i64 n, .int .i64 0], .bool (numOk (c :: r))])) w') := fun n w' hn hB => by
          refine FirstPost.of hok (fun h => ?_) hB
          have hx : ¬ (6 < runP digitB (c :: r) ∨ 1 < runP digitB (c :: r) ∧ c = 48) := by
            have h' := of_decide_eq_true h
            intro hx
            apply h'
            rcases hx with hx | ⟨hx, e⟩
            · exact .inl hx
            · exact .inr ⟨hx, by rw [e]; rfl⟩
          rw [if_neg hx] at hT
          simp only [firstT, hT]
          exact ⟨trivial, trivial, hn h⟩
        clear hT ht hl hc hcz hok
        go_enter Tryz.func45, Tryz.ntmps45
        go_wp2_with (first
          | (go_at_call 72; refine hlet.mono ?_; rintro e w1 ⟨rfl, rfl⟩)
          | (go_at_call 75; refine hdigc.mono ?_; rintro e w1 ⟨rfl, rfl⟩)
          | (go_at_call 76; refine hnum.mono ?_; rintro e w2 ⟨n, rfl, hn, hB2⟩
             have tb2 := tb1.below hB2 (by simp)
             have c0 := tb2.c0
             have c1 := tb2.c1
             have c2 := tb2.c2
             have c3 := tb2.c3
             have f0 := tb2.f0)
          | fail)
        refine bodyPost_ret ?_ rfl (hfin.out n _ hn (set4_below (hB1.trans (hB2.mono (by simp))) (Nat.le_refl _)))
        simp [results, Tryz.results45, go_sem, c0, c1, c2, c3]
      · have hD' : digitB c = false := by simpa using hD
        rw [hc, hD', ← hc] at hdigc
        have hp1 := prefix_any s ⟨#[61, 61]⟩ (w.alloc (.cells #[.int .i64 0, .string { data := #[] }, .int .i64 0, .int .i64 0] 41))
        have hp2 := prefix_any s ⟨#[33, 61]⟩ (w.alloc (.cells #[.int .i64 0, .string { data := #[] }, .int .i64 0, .int .i64 0] 41))
        rw [hl] at hp1 hp2
        have htwo := two_eq (c :: r)
        by_cases h2 : two (c :: r) = true
        · have hT : headT (c :: r) = some (3, 2, 0) := by
            simp only [headT]
            rw [if_neg hL, if_neg hD, if_pos h2]
          have hlen := two_len h2
          have h2s : 2 ≤ s.size := by rw [← data_len, hl]; exact hlen
          have h2i : (2 : Int) ≤ s.size := by omega
          have hfin : Hid (∀ w', Below w.heap.size w w' → FirstPost (c :: r) w (.returned (.tuple #[.agg #[.int .i64 3, .string (s.extract 0 2), .int .i64 0, .int .i64 0], .bool true])) w') := fun w' hB => by
            rw [ht]
            exact FirstPost.of (b := true) (by simp [firstOk, hT]) (fun _ => by simp [firstT, hT]) hB
          rw [h2] at htwo
          cases hq1 : Lib.hasPrefix (c :: r) [61, 61] <;> cases hq2 : Lib.hasPrefix (c :: r) [33, 61]
          · rw [hq1, hq2] at htwo; cases htwo
          all_goals
            change Calls _ _ _ _ (fun e w' => e = .returned (.bool (Lib.hasPrefix (c :: r) [61, 61])) ∧ _ = w') at hp1
            change Calls _ _ _ _ (fun e w' => e = .returned (.bool (Lib.hasPrefix (c :: r) [33, 61])) ∧ _ = w') at hp2
            rw [hq1] at hp1
            rw [hq2] at hp2
            clear hT ht hl hc hcz htwo hq1 hq2
            go_enter Tryz.func45, Tryz.ntmps45
            go_wp2_with (first
              | (go_at_call 72; refine hlet.mono ?_; rintro e w1 ⟨rfl, rfl⟩)
              | (go_at_call 75; refine hdigc.mono ?_; rintro e w1 ⟨rfl, rfl⟩)
              | (go_at_call 77; refine hp1.mono ?_; clear hp1; rintro e w1 ⟨rfl, rfl⟩)
              | (go_at_call 77; refine hp2.mono ?_; clear hp2; rintro e w1 ⟨rfl, rfl⟩)
              | fail)
            refine bodyPost_ret ?_ rfl (hfin.out _ ?_)
            · simp [results, Tryz.results45, go_sem]
            · exact (Below.refl _ w).alloc (Nat.le_refl _) _
        · have h2' : two (c :: r) = false := by simpa using h2
          have hT : headT (c :: r) = if signB c = true then some (3, 1, 0) else none := by
            simp only [headT]
            rw [if_neg hL, if_neg hD, if_neg h2]
          have hfin : Hid (∀ w', Below w.heap.size w w' → FirstPost (c :: r) w (.returned (.tuple #[.agg #[.int .i64 3, .string (s.extract 0 1), .int .i64 0, .int .i64 0], .bool (signB c)])) w') := fun w' hB => by
            rw [ht]
            refine FirstPost.of ?_ (fun h => ?_) hB
            · simp only [firstOk, hT]
              cases signB c <;> rfl
            · rw [if_pos h] at hT
              simp [firstT, hT]
          have hsc : signB s[0] = signB c := by rw [hc]
          have hsg : ∀ w', Calls Tryz.prog 78 #[.string ⟨#[43, 45, 42, 60, 38, 124, 61, 40, 41, 123, 125, 59, 44]⟩, .int .u8 s[0].toNat] w' fun e w'' => (∃ x, e = .returned (.int .i64 x) ∧ decide (0 ≤ x) = signB c) ∧ w' = w'' := fun w' => by
            have := sign_any s[0] w'
            rwa [hsc] at this
          rw [h2'] at htwo
          have hq1 : Lib.hasPrefix (c :: r) [61, 61] = false := by cases h : Lib.hasPrefix (c :: r) [61, 61]; rfl; rw [h] at htwo; cases htwo
          have hq2 : Lib.hasPrefix (c :: r) [33, 61] = false := by cases h : Lib.hasPrefix (c :: r) [33, 61]; rfl; rw [h, hq1] at htwo; cases htwo
          change Calls _ _ _ _ (fun e w' => e = .returned (.bool (Lib.hasPrefix (c :: r) [61, 61])) ∧ _ = w') at hp1
          change Calls _ _ _ _ (fun e w' => e = .returned (.bool (Lib.hasPrefix (c :: r) [33, 61])) ∧ _ = w') at hp2
          rw [hq1] at hp1
          rw [hq2] at hp2
          generalize signB c = B at *
          clear hT ht hl hc hcz htwo hq1 hq2 hsc
          go_enter Tryz.func45, Tryz.ntmps45
          go_wp2_with (first
            | (go_at_call 72; refine hlet.mono ?_; rintro e w1 ⟨rfl, rfl⟩)
            | (go_at_call 75; refine hdigc.mono ?_; rintro e w1 ⟨rfl, rfl⟩)
            | (go_at_call 77; refine hp1.mono ?_; clear hp1; rintro e w1 ⟨rfl, rfl⟩)
            | (go_at_call 77; refine hp2.mono ?_; clear hp2; rintro e w1 ⟨rfl, rfl⟩)
            | fail)
          go_region_with (first
            | (go_at_call 78; refine (hsg _).mono ?_; rintro e w1 ⟨⟨x, rfl, hx⟩, rfl⟩)
            | fail)
          all_goals go_wp2
          all_goals refine bodyPost_ret ?_ rfl (hfin.out _ ?_)
          all_goals first
            | exact ((Below.refl _ w).alloc (Nat.le_refl _) _).drew
            | simp [results, Tryz.results45, go_sem]
end Go.Proofs.YtogopcejapklgaaGreatDoor
