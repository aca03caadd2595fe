/- Tokens in memory: rows of tokens; append of one token. -/
import Derived.Test.YtogopcejapklgaaGreatDoorBunL
import Derived.Test.YtogopcejapklgaaGreatDoorBunM
import Derived.Test.YtogopcejapklgaaGreatDoorRows
import Derived.Laws.OwnMore
import Derived.BigQuiet
import Derived.Deep.QuietTactic
import Derived.Lib.Strings
namespace Go.Proofs.YtogopcejapklgaaGreatDoor
open Go.RowKit

/-- Cell j of element i of a row whose elements have sz cells each. -/
theorem flat_at {α : Type} (f : α → List Value) (sz : Nat) (hf : ∀ x, (f x).length = sz) : ∀ (l : List α) (i j : Nat) (hi : i < l.length), j < sz → (l.flatMap f)[i * sz + j]? = (f l[i])[j]?
  | [], i, j, hi, _ => by simp at hi
  | x :: l, 0, j, _, hj => by
    simp only [List.flatMap_cons, Nat.zero_mul, Nat.zero_add, List.getElem_cons_zero]
    rw [List.getElem?_append_left (by rw [hf]; exact hj)]
  | x :: l, i + 1, j, hi, hj => by
    have ih := flat_at f sz hf l i j (by simpa using hi) hj
    simp only [List.flatMap_cons, List.getElem_cons_succ]
    rw [List.getElem?_append_right (by rw [hf, Nat.succ_mul]; omega), hf, ← ih]
    congr 1
    rw [Nat.succ_mul]; omega
theorem flat_size {α : Type} (f : α → List Value) (sz : Nat) (hf : ∀ x, (f x).length = sz) (l : List α) : (l.flatMap f).length = l.length * sz := by
  induction l with
  | nil => simp
  | cons x l ih => simp only [List.flatMap_cons, List.length_append, hf, ih, List.length_cons, Nat.succ_mul]; omega
/-- Element i's cells. -/
def celAt {α : Type} (f : α → List Value) (l : List α) (i : Nat) : List Value := match l[i]? with | some x => f x | none => []
/-- A row of the call's own, element by element. -/
theorem Sl.of_own {α : Type} (f : α → List Value) (sz : Nat) (hf : ∀ x, (f x).length = sz) {w : World} {base : Nat} {T : TypeId} {v : Value} {l : List α} (h : w.ownsRow base T sz v l.length (l.flatMap f)) :
    ∃ a cap, v = .slice a l.length cap ∧ Sl w (fun b => base ≤ b ∧ b < w.heap.size) sz a l.length cap (celAt f l) := by
  have h' := h
  obtain ⟨_, h⟩ := h
  rcases h with ⟨rfl, h0⟩ | ⟨g, cap, cur, rfl, hb, hg, hle, hcm, hsz, htk⟩
  · exact ⟨none, 0, by rw [h0], by omega, Nat.zero_le _, fun hp => absurd hp (by omega)⟩
  · refine ⟨some ⟨g, 0, none⟩, cap, rfl, hle, hcm, fun _ => ⟨g, 0, rfl, ⟨hb, (Array.getElem?_eq_some_iff.1 hg).1⟩, fun i hi j hj => ?_⟩⟩
    have hfl := flat_at f sz hf l i j hi hj
    simp only [celAt, List.getElem?_eq_getElem hi]
    have hlt : j < (f l[i]).length := by rw [hf]; exact hj
    rw [List.getElem?_eq_getElem hlt] at hfl ⊢
    have := h'.cells (g := g) rfl _ _ hfl
    have hadd : (⟨g, 0, none⟩ : Addr).add (i * sz + j) = ⟨g, 0 + (i * sz + j), none⟩ := by
      unfold Addr.add
      split
      · rename_i h; rw [h]
      · simp
    rwa [hadd] at this

theorem tok_info : (Tryz.prog.info? 41).map (fun i => (i.zero, i.size, i.bytes)) = some (some (.agg #[.int .i64 0, .string ⟨#[]⟩, .int .i64 0, .int .i64 0]), 4, 40) := by kernel_rfl

/-- A list of bytes as a text. -/
abbrev strV (l : List UInt8) : Value := .string ⟨l.toArray⟩
/-- A token's cells. -/
def tkC (t : Tok) : List Value := [.int .i64 t.kind, strV t.text, .int .i64 t.n, .int .i64 t.place]
/-- A token's value. -/
abbrev tkV (t : Tok) : Value := .agg #[.int .i64 t.kind, strV t.text, .int .i64 t.n, .int .i64 t.place]
theorem tkC_len (t : Tok) : (tkC t).length = 4 := rfl
theorem tkC_one (l : List Tok) : ∀ u ∈ l.flatMap tkC, u.oneCell' = true := by
  intro u hu
  obtain ⟨x, _, hx⟩ := List.mem_flatMap.1 hu
  simp [tkC] at hx
  rcases hx with rfl | rfl | rfl | rfl <;> rfl
theorem tkC_one1 (t : Tok) : ∀ u ∈ tkC t, u.oneCell' = true := fun u hu => tkC_one [t] u (by simpa using hu)

/-- append of one token. -/
theorem list_tk {ops : Array Oper} {rest : List Oper} {o : Oper} {a : Act} {w : World} {base : Nat} {Q : Exit → Act → World → Prop} (s x : Operand) (v : Value) (n : Nat) (xs : List Value) (m : Nat) (news : List Value)
    (hgd : o.guard = none) (ho : o.op = .call { callee := .builtin .append, args := #[s, x], argTypes := #[37, 37] })
    (hsv : a.eval s = v) (hown : w.ownsRow base 41 4 v n xs) (hsrc : ∃ A c, a.eval x = .slice A m c ∧ SrcAt w 4 A m news) (h1 : ∀ u ∈ news, u.oneCell' = true) (hb : n + m ≤ 100000) (hbase : base ≤ w.heap.size)
    (h : ∀ v' w', w'.ownsRow base 41 4 v' (n + m) (xs ++ news) → w.grownBy w' v.ownBlock → (v'.ownBlock = v.ownBlock ∨ v'.ownBlock = some w.heap.size) → wpList Tryz.prog ops Q rest (a.put o.dst v') w') :
    wpList Tryz.prog ops Q (o :: rest) a w := by
  obtain ⟨i0, hi, hz0, hz1, hz2⟩ := info_parts tok_info
  exact list_app hgd s x ho Tryz.underlying37 hi hz0 hz1 hz2 rfl (by decide) v n xs hsv hown m news hsrc h1 (by simp only [maxLen]; omega) (by omega) hbase h

/-- Tokens that the call has collected. -/
def TkO (w : World) (B : Nat) (v : Value) (L : List Tok) : Prop := w.ownsRow B 41 4 v L.length (L.flatMap tkC)
/-- Tokens lie where a slice leads. -/
def TkIn (w : World) (S : Nat → Prop) (a : Option Addr) (n cap : Nat) (l : List Tok) : Prop :=
  n = l.length ∧ Sl w S 4 a l.length cap (celAt tkC l)
namespace TkIn
variable {w w' : World} {S S' : Nat → Prop} {a : Option Addr} {n cap : Nat} {l : List Tok}
theorem keep (h : TkIn w S a n cap l) (hk : ∀ b o, S b → w'.cell? ⟨b, o, none⟩ = w.cell? ⟨b, o, none⟩) : TkIn w' S a n cap l := ⟨h.1, h.2.keep hk⟩
theorem widen (h : TkIn w S a n cap l) (hS : ∀ b, S b → S' b) : TkIn w S' a n cap l := ⟨h.1, h.2.widen hS⟩
theorem at_ (h : TkIn w S a n cap l) (i : Nat) (hi : i < l.length) : ∃ b off, a = some ⟨b, off, none⟩ ∧ S b ∧ w.cell? ⟨b, off + i * 4, none⟩ = some (.int .i64 l[i].kind) ∧ w.cell? ⟨b, off + i * 4 + 1, none⟩ = some (strV l[i].text)
    ∧ w.cell? ⟨b, off + i * 4 + 2, none⟩ = some (.int .i64 l[i].n) ∧ w.cell? ⟨b, off + i * 4 + 3, none⟩ = some (.int .i64 l[i].place) := by
  obtain ⟨b, off, rfl, hb, hc⟩ := h.2.at_ (by omega)
  refine ⟨b, off, rfl, hb, ?_, ?_, ?_, ?_⟩
  · have := hc i hi 0 (by omega)
    simpa [celAt, tkC, hi] using this
  · have := hc i hi 1 (by omega)
    simpa [celAt, tkC, hi, Nat.add_assoc] using this
  · have := hc i hi 2 (by omega)
    simpa [celAt, tkC, hi, Nat.add_assoc] using this
  · have := hc i hi 3 (by omega)
    simpa [celAt, tkC, hi, Nat.add_assoc] using this
theorem nil_ : TkIn w S none 0 0 [] := ⟨rfl, Sl.nil⟩
end TkIn
theorem TkO.in_ {w : World} {B : Nat} {v : Value} {L : List Tok} (h : TkO w B v L) : ∃ a cap, v = .slice a L.length cap ∧ TkIn w (fun b => B ≤ b ∧ b < w.heap.size) a L.length cap L := by
  obtain ⟨a, cap, rfl, hs⟩ := Sl.of_own tkC 4 tkC_len h
  exact ⟨a, cap, rfl, rfl, hs⟩
theorem Kp.tk {W0 w : World} (h : Kp W0 w) {a : Option Addr} {n cap : Nat} {l : List Tok} (hx : TkIn W0 (In_ W0) a n cap l) : TkIn w (In_ w) a n cap l := (hx.keep fun b o hb => h.2 b o hb).widen (In_.mono h.1.size)
end Go.Proofs.YtogopcejapklgaaGreatDoor
namespace Go.Proofs.YtogopcejapklgaaGreatDoor
open Go.RowKit

theorem letterB_int (c : UInt8) : letterB c = (decide ((97 : Int) ≤ c.toNat) && decide ((c.toNat : Int) ≤ 122)) := by
  unfold letterB
  congr 1 <;> (apply decide_eq_decide.2; omega)
theorem digitB_int (c : UInt8) : digitB c = (decide ((48 : Int) ≤ c.toNat) && decide ((c.toNat : Int) ≤ 57)) := by
  unfold digitB
  congr 1 <;> (apply decide_eq_decide.2; omega)

set_option maxHeartbeats 1000000 in
theorem letter_any (c : UInt8) (w : World) : Calls Tryz.prog 72 #[.int .u8 c.toNat] w fun e w' => e = .returned (.bool (letterB c)) ∧ w = w' := by
  rw [letterB_int]
  by_cases h : (97 : Int) ≤ c.toNat <;> by_cases h' : (c.toNat : Int) ≤ 122
  all_goals
    first | rw [decide_eq_true h] | rw [decide_eq_false h]
    first | rw [decide_eq_true h'] | rw [decide_eq_false h']
    go_enter Tryz.func72, Tryz.ntmps72
    go_wp2_with fail
    go_ret
    exact ⟨rfl, rfl⟩

set_option maxHeartbeats 1000000 in
theorem digit_any (c : UInt8) (w : World) : Calls Tryz.prog 75 #[.int .u8 c.toNat] w fun e w' => e = .returned (.bool (digitB c)) ∧ w = w' := by
  rw [digitB_int]
  by_cases h : (48 : Int) ≤ c.toNat <;> by_cases h' : (c.toNat : Int) ≤ 57
  all_goals
    first | rw [decide_eq_true h] | rw [decide_eq_false h]
    first | rw [decide_eq_true h'] | rw [decide_eq_false h']
    go_enter Tryz.func75, Tryz.ntmps75
    go_wp2_with fail
    go_ret
    exact ⟨rfl, rfl⟩

set_option maxHeartbeats 1000000 in
theorem letterR_any (c : UInt8) (w : World) : Calls Tryz.prog 55 #[.int .u8 c.toNat] w fun e w' => e = .returned (.bool (letterB c)) ∧ w = w' := by
  rw [letterB_int]
  by_cases h : (97 : Int) ≤ c.toNat <;> by_cases h' : (c.toNat : Int) ≤ 122
  all_goals
    first | rw [decide_eq_true h] | rw [decide_eq_false h]
    first | rw [decide_eq_true h'] | rw [decide_eq_false h']
    go_enter Tryz.func55, Tryz.ntmps55
    go_wp2_with fail
    go_ret
    exact ⟨rfl, rfl⟩

set_option maxHeartbeats 1000000 in
theorem digitR_any (c : UInt8) (w : World) : Calls Tryz.prog 57 #[.int .u8 c.toNat] w fun e w' => e = .returned (.bool (digitB c)) ∧ w = w' := by
  rw [digitB_int]
  by_cases h : (48 : Int) ≤ c.toNat <;> by_cases h' : (c.toNat : Int) ≤ 57
  all_goals
    first | rw [decide_eq_true h] | rw [decide_eq_false h]
    first | rw [decide_eq_true h'] | rw [decide_eq_false h']
    go_enter Tryz.func57, Tryz.ntmps57
    go_wp2_with fail
    go_ret
    exact ⟨rfl, rfl⟩

set_option maxHeartbeats 1000000 in
theorem part_any (c : UInt8) (w : World) : Calls Tryz.prog 74 #[.int .u8 c.toNat] w fun e w' => e = .returned (.bool (partB c)) ∧ w = w' := by
  have hp : Hid (partB c = (letterB c || digitB c)) := rfl
  go_enter Tryz.func74, Tryz.ntmps74
  go_wp2_with (first
    | (go_at_call 72; refine (letter_any c w).mono ?_; rintro e w1 ⟨rfl, rfl⟩)
    | (go_at_call 75; refine (digit_any c w).mono ?_; rintro e w1 ⟨rfl, rfl⟩)
    | fail)
  all_goals go_ret
  all_goals exact ⟨ret_bool (by rw [hp.out]; simp [*]), rfl⟩
end Go.Proofs.YtogopcejapklgaaGreatDoor
namespace Go.Proofs.YtogopcejapklgaaGreatDoor
open Go.RowKit

theorem data_len (s : ByteArray) : s.data.toList.length = s.size := rfl
theorem drop_byte (s : ByteArray) (k : Nat) (h : k < s.size) : s.data.toList.drop k = s[k] :: s.data.toList.drop (k + 1) := by
  rw [List.drop_eq_getElem_cons (by rw [data_len]; exact h)]
  rfl

set_option maxHeartbeats 2000000 in
theorem run_part (s : ByteArray) (w : World) (hs : s.size ≤ 100000) :
    Calls Tryz.prog 73 #[.string s, .func (.func 74) #[] #[]] w fun e w' => e = .returned (.int .i64 (runP partB s.data.toList)) ∧ w = w' := by
  go_enter Tryz.func73, Tryz.ntmps73
  go_wp2_with fail
  go_loopw [8] (fun i wr => ∃ k : Nat, k ≤ s.size ∧ i = .int .i64 k ∧ Hid (runP partB s.data.toList = k + runP partB (s.data.toList.drop k)) ∧ wr = w) (fun i _ => s.size - (intOf i).toNat)
  case atStart => exact ⟨0, Nat.zero_le _, rfl, by simp [Hid], rfl⟩
  case round =>
    obtain ⟨k, hk, rfl, hp, hw⟩ := hrel
    subst hw
    by_cases hlt : k < s.size
    · have k0 : (0 : Int) ≤ k := by omega
      have k1 : (k : Int) < s.size := by omega
      have hd := hid (drop_byte s k hlt)
      cases hb : partB s[k] with
      | true =>
        have hp2 : Hid (runP partB s.data.toList = (k + 1 : Nat) + runP partB (s.data.toList.drop (k + 1))) := by
          show _ = _
          rw [hp.out, hd.out, runP_cons_pos hb]; omega
        clear hp hd
        go_wp2_with (first
          | (go_at_call 74; refine (part_any s[k] _).mono ?_; rintro e w1 ⟨rfl, rfl⟩)
          | fail)
        go_roundw
        case rel => exact ⟨k + 1, by omega, by simp, hp2, by trivial⟩
        case measure => simp [intOf]; omega
      | false =>
        have hp2 : Hid (runP partB s.data.toList = k) := by
          show _ = _
          rw [hp.out, hd.out, runP_cons_neg hb]; omega
        clear hp hd
        go_wp2_with (first
          | (go_at_call 74; refine (part_any s[k] _).mono ?_; rintro e w1 ⟨rfl, rfl⟩)
          | fail)
        go_ret
        exact ⟨ret_int (by rw [hp2.out]), rfl⟩
    · obtain rfl : k = s.size := by omega
      have hp2 : Hid (runP partB s.data.toList = s.size) := by
        show _ = _
        rw [hp.out, List.drop_eq_nil_of_le (Nat.le_of_eq (data_len s)), runP_nil]; omega
      clear hp
      go_wp2_with fail
      go_ret
      exact ⟨ret_int (by rw [hp2.out]), rfl⟩

set_option maxHeartbeats 2000000 in
theorem run_digit (s : ByteArray) (w : World) (hs : s.size ≤ 100000) :
    Calls Tryz.prog 73 #[.string s, .func (.func 75) #[] #[]] w fun e w' => e = .returned (.int .i64 (runP digitB s.data.toList)) ∧ w = w' := by
  go_enter Tryz.func73, Tryz.ntmps73
  go_wp2_with fail
  go_loopw [8] (fun i wr => ∃ k : Nat, k ≤ s.size ∧ i = .int .i64 k ∧ Hid (runP digitB s.data.toList = k + runP digitB (s.data.toList.drop k)) ∧ wr = w) (fun i _ => s.size - (intOf i).toNat)
  case atStart => exact ⟨0, Nat.zero_le _, rfl, by simp [Hid], rfl⟩
  case round =>
    obtain ⟨k, hk, rfl, hp, hw⟩ := hrel
    subst hw
    by_cases hlt : k < s.size
    · have k0 : (0 : Int) ≤ k := by omega
      have k1 : (k : Int) < s.size := by omega
      have hd := hid (drop_byte s k hlt)
      cases hb : digitB s[k] with
      | true =>
        have hp2 : Hid (runP digitB s.data.toList = (k + 1 : Nat) + runP digitB (s.data.toList.drop (k + 1))) := by
          show _ = _
          rw [hp.out, hd.out, runP_cons_pos hb]; omega
        clear hp hd
        go_wp2_with (first
          | (go_at_call 75; refine (digit_any s[k] _).mono ?_; rintro e w1 ⟨rfl, rfl⟩)
          | fail)
        go_roundw
        case rel => exact ⟨k + 1, by omega, by simp, hp2, by trivial⟩
        case measure => simp [intOf]; omega
      | false =>
        have hp2 : Hid (runP digitB s.data.toList = k) := by
          show _ = _
          rw [hp.out, hd.out, runP_cons_neg hb]; omega
        clear hp hd
        go_wp2_with (first
          | (go_at_call 75; refine (digit_any s[k] _).mono ?_; rintro e w1 ⟨rfl, rfl⟩)
          | fail)
        go_ret
        exact ⟨ret_int (by rw [hp2.out]), rfl⟩
    · obtain rfl : k = s.size := by omega
      have hp2 : Hid (runP digitB s.data.toList = s.size) := by
        show _ = _
        rw [hp.out, List.drop_eq_nil_of_le (Nat.le_of_eq (data_len s)), runP_nil]; omega
      clear hp
      go_wp2_with fail
      go_ret
      exact ⟨ret_int (by rw [hp2.out]), rfl⟩

end Go.Proofs.YtogopcejapklgaaGreatDoor
