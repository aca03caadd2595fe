/- The token of a number: number. -/
import Derived.Test.YtogopcejapklgaaGreatDoorBunX
import Derived.Test.YtogopcejapklgaaGreatDoorBunL
import Derived.Test.YtogopcejapklgaaGreatDoorLexShelf01
namespace Go.Proofs.YtogopcejapklgaaGreatDoor
open Go.RowKit

/-- A token's box. -/
structure TBox (w : World) (B : Nat) (v0 v1 v2 v3 : Value) : Prop where
  lt : B < w.heap.size
  c0 : w.cell? ⟨B, 0, none⟩ = some v0
  c1 : w.cell? ⟨B, 1, none⟩ = some v1
  c2 : w.cell? ⟨B, 2, none⟩ = some v2
  c3 : w.cell? ⟨B, 3, none⟩ = some v3
  f0 : ∀ o, w.frozen? ⟨B, o, none⟩ = false
theorem TBox.block {w w' : World} {B : Nat} {v0 v1 v2 v3 : Value} (h : TBox w B v0 v1 v2 v3) (hs : w.heap.size ≤ w'.heap.size) (hb : w'.heap[B]? = w.heap[B]?) : TBox w' B v0 v1 v2 v3 :=
  ⟨Nat.lt_of_lt_of_le h.lt hs, (World.cell?_of_block (w := w) (a := ⟨B, 0, none⟩) hb).trans h.c0, (World.cell?_of_block (w := w) (a := ⟨B, 1, none⟩) hb).trans h.c1, (World.cell?_of_block (w := w) (a := ⟨B, 2, none⟩) hb).trans h.c2,
    (World.cell?_of_block (w := w) (a := ⟨B, 3, none⟩) hb).trans h.c3, fun o => (World.frozen?_of_block (w := w) (a := ⟨B, o, none⟩) hb).trans (h.f0 o)⟩
theorem TBox.below {w w' : World} {B n : Nat} {v0 v1 v2 v3 : Value} (h : TBox w B v0 v1 v2 v3) (hb : Below n w w') (hn : B < n) : TBox w' B v0 v1 v2 v3 := h.block hb.size (hb.block B hn)
theorem TBox.new (w : World) (t : TypeId) (v0 v1 v2 v3 : Value) : TBox (w.alloc (.cells #[v0, v1, v2, v3] t)) w.heap.size v0 v1 v2 v3 :=
  ⟨by simp, by go_simp, by go_simp, by go_simp, by go_simp, fun o => by go_simp⟩

theorem ext_take (s : ByteArray) (n : Nat) : (s.extract 0 n).data.toList = s.data.toList.take n := by
  rw [Lib.extract_data, List.drop_zero, Nat.sub_zero]
theorem ext_size (s : ByteArray) (n : Nat) (h : n ≤ s.size) : (s.extract 0 n).size = n := by
  have := congrArg List.length (ext_take s n)
  rw [data_len, List.length_take, data_len] at this
  omega
theorem bytes_eq (s : ByteArray) : s = ⟨s.data.toList.toArray⟩ := by cases s; simp

theorem strV_eq (s : ByteArray) : strV s.data.toList = .string s := congrArg Value.string (bytes_eq s).symm

def AtoiPost (l : List UInt8) (w : World) (e : Ending) (w' : World) : Prop :=
  Below w.heap.size w w' ∧ ((l.length ≤ 6 ∧ e = .returned (.tuple #[.int .i64 (numLx l), .nilIface])) ∨ (6 < l.length ∧ ∃ n v, e = .returned (.tuple #[.int .i64 n, v]) ∧ (v = .nilIface ∨ ∃ t p, v = .iface t (.pointer (some p)))))

theorem atoi_any (s : ByteArray) (w : World) (hs : s.size ≤ 100000) (hd : ∀ c ∈ s.data.toList, digitB c = true) (hne : s.data.toList ≠ []) (tp : TypeId) (p : Value) (hvar : w.var? Tryz.prog "strconv.ErrRange" = some #[.iface tp p]) :
    Calls Tryz.prog 89 #[.string s] w (AtoiPost s.data.toList w) := by
  by_cases h6 : s.data.toList.length ≤ 6
  · refine (strconv_Atoi_ok s (by omega) (numLx s.data.toList) (atoi_small _ hd hne h6) w).mono ?_
    rintro e w' ⟨rfl, hw⟩
    refine ⟨?_, .inl ⟨h6, rfl⟩⟩
    rcases hw with rfl | ⟨t, rfl⟩
    · exact Below.refl _ _
    · exact Lib.bytesWorld_below _ _ _
  · rcases atoi_digits _ hd hne with ⟨v, hx⟩ | hx
    · refine (strconv_Atoi_ok s (by omega) v hx w).mono ?_
      rintro e w' ⟨rfl, hw⟩
      refine ⟨?_, .inr ⟨by omega, _, _, rfl, .inl rfl⟩⟩
      rcases hw with rfl | ⟨t, rfl⟩
      · exact Below.refl _ _
      · exact Lib.bytesWorld_below _ _ _
    · refine (strconv_Atoi_range_var s (by omega) hx tp p w hvar).mono ?_
      rintro e w' ⟨N, rfl, _, _, hB⟩
      exact ⟨hB, .inr ⟨by omega, _, _, rfl, .inr ⟨_, _, rfl⟩⟩⟩
theorem below_grow (w : World) (q : Nat) (os : Array Obj) : Below w.heap.size w (Sort.grow (w.drewN q) os) :=
  ⟨rfl, rfl, rfl, by first | (simp [Sort.grow]; done) | (simp [Sort.grow]; omega), fun i hi => by
    show ((w.drewN q).heap ++ os)[i]? = _
    rw [Array.getElem?_append_left (by show i < w.heap.size; omega)]
    rfl⟩

theorem itoa_any (n : Int) (h0 : 0 ≤ n) (h1 : n ≤ 1000000) (w : World) (htab : Lib.TabIs Tryz.prog w "internal/strconv.uint64pow10" .u64 Lib.pow10Tab) :
    Calls Tryz.prog 41 #[.int .i64 n] w fun e w' => e = .returned (strV (Lib.decDigits n.toNat)) ∧ Below w.heap.size w w' := by
  refine (strconv_Itoa n (by omega) (by omega) w htab).mono ?_
  rintro e w' ⟨rfl, k, os, rfl⟩
  refine ⟨?_, below_grow _ _ _⟩
  unfold Lib.itoa
  rw [if_neg (by omega)]

/-- What number says of a text that begins with a digit. -/
def numOk (l : List UInt8) : Bool := decide (¬ (6 < runP digitB l ∨ 1 < runP digitB l ∧ l.head? = some 48))
def NumPost (l : List UInt8) (w : World) (e : Ending) (w' : World) : Prop :=
  ∃ n, e = .returned (.tuple #[.agg #[.int .i64 2, strV (l.take (runP digitB l)), .int .i64 n, .int .i64 0], .bool (numOk l)]) ∧ (numOk l = true → n = numLx (l.take (runP digitB l))) ∧ Below w.heap.size w w'

/-- The package variables that a call may read. -/
structure Vars (w : World) : Prop where
  tab : Lib.TabIs Tryz.prog w "internal/strconv.uint64pow10" .u64 Lib.pow10Tab
  err : ∃ tp p, w.var? Tryz.prog "strconv.ErrRange" = some #[.iface tp p]
noncomputable def gErr : Nat := (Tryz.prog.globalNamed "strconv.ErrRange").getD 0
noncomputable def gTab : Nat := (Tryz.prog.globalNamed "internal/strconv.uint64pow10").getD 0
theorem gErr_eq : Tryz.prog.globalNamed "strconv.ErrRange" = some gErr := by kernel_rfl
theorem gTab_eq : Tryz.prog.globalNamed "internal/strconv.uint64pow10" = some gTab := by kernel_rfl
theorem var_lt {w : World} {name : String} {g : Nat} {cs : Array Value} (hg : Tryz.prog.globalNamed name = some g) (h : w.var? Tryz.prog name = some cs) : g < w.heap.size := by
  unfold World.var? at h
  rw [hg] at h
  simp only [Option.bind_some] at h
  cases hx : w.heap[g]? with
  | none => rw [hx] at h; cases h
  | some o => exact (Array.getElem?_eq_some_iff.1 hx).1
/-- They lie below this block. -/
noncomputable def gTop : Nat := Nat.max gErr gTab + 1
theorem Vars.size {w : World} (h : Vars w) : gTop ≤ w.heap.size := by
  obtain ⟨tp, p, he⟩ := h.err
  have h1 := var_lt gErr_eq he
  have h2 := var_lt gTab_eq h.tab
  unfold gTop
  have : Nat.max gErr gTab = gErr ∨ Nat.max gErr gTab = gTab := by
    rcases Nat.le_total gErr gTab with h | h
    · exact .inr (Nat.max_eq_right h)
    · exact .inl (Nat.max_eq_left h)
  omega
theorem Vars.below {w w' : World} {n : Nat} (h : Vars w) (hb : Below n w w') (hn : gTop ≤ n) : Vars w' := by
  have m1 : gErr ≤ Nat.max gErr gTab := Nat.le_max_left _ _
  have m2 : gTab ≤ Nat.max gErr gTab := Nat.le_max_right _ _
  unfold gTop at hn
  obtain ⟨tp, p, he⟩ := h.err
  exact ⟨var?_below hb gTab_eq (by omega) h.tab, tp, p, var?_below hb gErr_eq (by omega) he⟩
theorem Vars.next {w w' : World} (h : Vars w) (hb : Below w.heap.size w w') : Vars w' := h.below hb h.size

theorem runP_head (l : List UInt8) : (l.take (runP digitB l)).length = runP digitB l := by rw [List.length_take]; have := runP_le digitB l; omega

theorem set4_below {n : Nat} {w W : World} {B : Nat} {a b c d : Value} (h : Below n w W) (hB : n ≤ B) : Below n w ((((W.setCell ⟨B, 0, none⟩ a).setCell ⟨B, 1, none⟩ b).setCell ⟨B, 2, none⟩ c).setCell ⟨B, 3, none⟩ d) :=
  (((h.setCell hB _).setCell hB _).setCell hB _).setCell hB _

set_option maxRecDepth 100000 in
set_option maxHeartbeats 4000000 in
theorem number_any (s : ByteArray) (w : World) (hs : s.size ≤ 100000) (h0 : ∃ c r, s.data.toList = c :: r ∧ digitB c = true) (hv : Vars w) :
    Calls Tryz.prog 76 #[.string s] w (NumPost s.data.toList w) := by
  obtain ⟨c, r, hcr, hc⟩ := h0
  obtain ⟨n, hn⟩ : ∃ n, runP digitB s.data.toList = n := ⟨_, rfl⟩
  have hle : n ≤ s.size := by rw [← hn, ← data_len]; exact runP_le _ _
  have hpos : 1 ≤ n := by rw [← hn, hcr, runP_cons_pos hc]; omega
  have ht : (s.extract 0 n).data.toList = s.data.toList.take (runP digitB s.data.toList) := by rw [ext_take, hn]
  have hsz := ext_size s n hle
  have htl : (s.data.toList.take (runP digitB s.data.toList)).length = n := by rw [runP_head, hn]
  have hdig := run_digits s.data.toList
  have hne : (s.extract 0 n).data.toList ≠ [] := by
    intro e
    rw [ht] at e
    rw [e] at htl
    simp at htl; omega
  have hok : numOk s.data.toList = decide (¬ (6 < n ∨ 1 < n ∧ c = 48)) := by
    unfold numOk
    rw [hn, hcr]
    simp
  have hhead : (s.data.toList.take (runP digitB s.data.toList)).head? = some c := by
    rw [hn, hcr]
    cases n with
    | zero => omega
    | succ n => simp
  have hB1 : Below w.heap.size w (w.alloc (.cells #[.int .i64 0, .string { data := #[] }, .int .i64 0, .int .i64 0] 41)) := (Below.refl _ w).alloc (Nat.le_refl _) _
  have hV1 := hv.next hB1
  obtain ⟨tp, p, hE1⟩ := hV1.err
  have tb1 := TBox.new w 41 (.int .i64 0) (.string { data := #[] }) (.int .i64 0) (.int .i64 0)
  have hA := atoi_any (s.extract 0 n) (w.alloc (.cells #[.int .i64 0, .string { data := #[] }, .int .i64 0, .int .i64 0] 41)) (by omega) (by rw [ht]; exact hdig) hne tp p hE1
  rw [ht] at hA
  have hpost : Hid (∀ (v : Int) (b : Bool) (w' : World), b = numOk s.data.toList → (b = true → v = numLx (s.data.toList.take (runP digitB s.data.toList))) → Below w.heap.size w w' →
      NumPost s.data.toList w (.returned (.tuple #[.agg #[.int .i64 2, .string (s.extract 0 n), .int .i64 v, .int .i64 0], .bool b])) w') := by
    intro v b w' hb hvv hB
    subst hb
    refine ⟨v, ?_, hvv, hB⟩
    rw [← ht, strV_eq]
  have hrun := run_digit s (w.alloc (.cells #[.int .i64 0, .string { data := #[] }, .int .i64 0, .int .i64 0] 41)) hs
  rw [hn] at hrun
  have hle' : (n : Int) ≤ s.size := by omega
  have hn0 : (0 : Int) ≤ n := by omega
  have Hcr := hid hcr
  clear hcr
  by_cases h6 : n ≤ 6
  · have h6' : (n : Int) ≤ 6 := by omega
    have hN : numLx (s.data.toList.take (runP digitB s.data.toList)) = (numN (s.data.toList.take (runP digitB s.data.toList)) : Int) := numL_numN _ hdig
    have hNlt := numN_lt _ hdig
    rw [htl] at hNlt
    have hp6 : 10 ^ n ≤ 10 ^ 6 := Nat.pow_le_pow_right (by omega) h6
    have hB := hid hdig
    generalize hlst : s.data.toList.take (runP digitB s.data.toList) = d at *
    have Hd := hid hlst
    clear hlst
    obtain ⟨N, hNN⟩ : ∃ N, numN d = N := ⟨_, rfl⟩
    have hA6 := hA.mono (R' := fun e w2 => Below (w.heap.size + 1) (w.alloc (.cells #[.int .i64 0, .string { data := #[] }, .int .i64 0, .int .i64 0] 41)) w2 ∧ e = .returned (.tuple #[.int .i64 N, .nilIface])) (by
      rintro e w2 ⟨h1, h2 | h2⟩
      · rw [hN, hNN] at h2
        exact ⟨by simpa using h1, h2.2⟩
      · omega)
    clear hA
    have g1 : gTop ≤ w.heap.size + 1 := by have := hv.size; omega
    have hN0 : (0 : Int) ≤ N := by omega
    have hN1 : (N : Int) ≤ 1000000 := by omega
    go_enter Tryz.func76, Tryz.ntmps76
    go_wp2_with (first
      | (go_at_call 73; refine hrun.mono ?_; rintro e w1 ⟨rfl, rfl⟩)
      | (go_at_call 89; refine hA6.mono ?_; rintro e w2 ⟨hB2, rfl⟩
         have hV2 := hV1.below hB2 g1
         have tb2 := tb1.below hB2 (Nat.lt_succ_self _))
      | (go_at_call 41; refine (itoa_any _ hN0 hN1 _ hV2.tab).mono ?_; rintro e w3 ⟨rfl, hB3⟩
         have tb3 := tb2.below hB3 tb2.lt
         have c0 := tb3.c0
         have c1 := tb3.c1
         have c2 := tb3.c2
         have c3 := tb3.c3
         have f0 := tb3.f0)
      | fail)
    refine bodyPost_ret (v := .tuple #[.agg #[.int .i64 2, .string (s.extract 0 n), .int .i64 N, .int .i64 0], .bool (Lib.decDigits N == (s.extract 0 n).toList)]) (by simp [results, Tryz.results76, go_sem, c0, c1, c2, c3]) rfl ?_
    refine hpost.out N _ _ ?_ (fun _ => by rw [hN, hNN]) (set4_below (hB1.trans ((hB2.mono (Nat.le_succ _)).trans (hB3.mono (by have := hB2.size; simp at this; omega)))) (Nat.le_refl _))
    rw [hok, Lib.toList_data, ht, ← hNN]
    by_cases hx : 1 < n ∧ c = 48
    · rw [decide_eq_false (by simp [hx])]
      have := dec_not d (by rw [htl]; exact hx.1) (by rw [hhead, hx.2])
      simpa using this
    · rw [decide_eq_true (by intro h; rcases h with h | h; omega; exact hx h)]
      have := dec_back d hB.out (by intro e; rw [e] at htl; simp at htl; omega) (by
        by_cases h1 : 1 < n
        · right
          intro e he
          rw [hhead] at he
          cases he
          exact fun e => hx ⟨h1, e⟩
        · left; omega)
      simpa using this
  · have hA7 := hA.mono (R' := fun e w2 => Below (w.heap.size + 1) (w.alloc (.cells #[.int .i64 0, .string { data := #[] }, .int .i64 0, .int .i64 0] 41)) w2 ∧ ∃ v b, e = .returned (.tuple #[.int .i64 v, b]) ∧ (b = .nilIface ∨ ∃ t p, b = .iface t (.pointer (some p)))) (by
      rintro e w2 ⟨h1, h2 | h2⟩
      · omega
      · exact ⟨by simpa using h1, h2.2⟩)
    clear hA
    have h6' : (6 : Int) < n := by omega
    have g1 : gTop ≤ w.heap.size + 1 := by have := hv.size; omega
    have hno : Hid (numOk s.data.toList = false) := by
      show _ = _
      rw [hok, decide_eq_false (by intro h; exact h (.inl (by omega)))]
    go_enter Tryz.func76, Tryz.ntmps76
    go_wp2_with (first
      | (go_at_call 73; refine hrun.mono ?_; rintro e w1 ⟨rfl, rfl⟩)
      | (go_at_call 89; refine hA7.mono ?_; rintro e w2 ⟨hB2, v, b, rfl, rfl | ⟨t, p, rfl⟩⟩
         all_goals
           have tb2 := tb1.below hB2 (Nat.lt_succ_self _)
           have c0 := tb2.c0
           have c1 := tb2.c1
           have c2 := tb2.c2
           have c3 := tb2.c3
           have f0 := tb2.f0)
      | fail)
    all_goals refine bodyPost_ret (v := .tuple #[.agg #[.int .i64 2, .string (s.extract 0 n), .int .i64 v, .int .i64 0], .bool false]) (by simp [results, Tryz.results76, go_sem, c0, c1, c2, c3]) rfl ?_
    all_goals exact hpost.out v _ _ hno.out.symm (fun h => by cases h) (set4_below (hB1.trans (hB2.mono (Nat.le_succ _))) (Nat.le_refl _))
end Go.Proofs.YtogopcejapklgaaGreatDoor
