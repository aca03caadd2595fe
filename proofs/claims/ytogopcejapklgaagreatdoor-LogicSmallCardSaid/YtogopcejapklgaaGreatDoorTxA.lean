/- The program's call: a word with what stands in its brackets. -/
import Derived.Test.YtogopcejapklgaaGreatDoorLgF
import Derived.Test.YtogopcejapklgaaGreatDoorLexC
import Derived.Test.YtogopcejapklgaaGreatDoorBunF
namespace Go.Proofs.YtogopcejapklgaaGreatDoor
open Go.RowKit

theorem str_info : (Tryz.prog.info? 9).map (fun i => (i.zero, i.size, i.bytes)) = some (some (.string ⟨#[]⟩), 1, 16) := by kernel_rfl
theorem info_parts_str : ∃ i, Tryz.prog.info? 9 = some i ∧ i.zero = some (.string ⟨#[]⟩) ∧ i.size = 1 ∧ i.bytes = 16 := by
  have h := str_info
  cases hi : Tryz.prog.info? 9 with
  | none => rw [hi] at h; cases h
  | some i =>
    rw [hi] at h
    simp only [Option.map_some, Option.some.injEq, Prod.mk.injEq] at h
    exact ⟨i, rfl, h.1, h.2.1, h.2.2⟩
/-- Texts that the call has collected. -/
def StrO (w : World) (B : Nat) (v : Value) (l : List (List UInt8)) : Prop := w.ownsRow B 9 1 v l.length (l.map strV)
theorem StrO.nil_ {w : World} {B : Nat} : StrO w B (.slice none 0 0) [] := World.ownsRow_nil _ _ _ _
theorem StrO.sl {w : World} {B : Nat} {v : Value} {l : List (List UInt8)} (h : StrO w B v l) : ∃ a c, v = .slice a l.length c := own_at h
theorem StrO.grown {w w' : World} {B : Nat} {v : Value} {l : List (List UInt8)} {r : Option Nat} (h : StrO w B v l) (hg : w.grownBy w' r) (hr : ∀ k, r = some k → k < B) : StrO w' B v l := by
  refine World.ownsRow.kept h hg ?_
  rcases hv : v.ownBlock with _ | k
  · exact .inl rfl
  · right
    intro e
    have := (World.ownsRow.lt h k hv)
    have := hr k e.symm
    omega
theorem StrO.below {w w' : World} {B : Nat} {v : Value} {l : List (List UInt8)} (h : StrO w B v l) (hb : Below w.heap.size w w') : StrO w' B v l :=
  h.grown ⟨hb.os, hb.tape, hb.output, hb.size, fun k hk _ => hb.block k hk⟩ (r := none) fun _ e => by cases e
/-- append of one text, out of a new block. -/
theorem list_str {ops : Array Oper} {rest : List Oper} {o : Oper} {a : Act} {w : World} {base : Nat} {Q : Exit → Act → World → Prop} (s x : Operand) (v : Value) (l : List (List UInt8)) (t : List UInt8) {T : TypeId}
    (hgd : o.guard = none) (ho : o.op = .call { callee := .builtin .append, args := #[s, x], argTypes := #[32, 32] })
    (hsv : a.eval s = v) (hx : a.eval x = .slice (some ⟨w.heap.size, 0, none⟩) 1 1) (hown : StrO w base v l) (hb : l.length + 1 ≤ 100000) (hbase : base ≤ w.heap.size)
    (h : ∀ A c w', StrO w' base (.slice A (l.length + 1) c) (l ++ [t]) → (w.alloc (.cells #[strV t] T)).grownBy w' v.ownBlock → wpList Tryz.prog ops Q rest (a.put o.dst (.slice A (l.length + 1) c)) w') :
    wpList Tryz.prog ops Q (o :: rest) a (w.alloc (.cells #[strV t] T)) := by
  obtain ⟨i0, hi, hz0, hz1, hz2⟩ := info_parts_str
  have h1 : (w.alloc (.cells #[strV t] T)).ownsRow base 9 1 v l.length (l.map strV) := hown.below ((Below.refl _ _).alloc (Nat.le_refl _) _)
  have hsrc : SrcAt (w.alloc (.cells #[strV t] T)) 1 (some ⟨w.heap.size, 0, none⟩) 1 [strV t] := src_new rfl
  refine list_app hgd s x ho Tryz.underlying32 hi hz0 hz1 hz2 rfl (by decide) v l.length (l.map strV) hsv h1 1 [strV t] ⟨_, _, hx, hsrc⟩ (by simp [Value.oneCell']) (by simp only [maxLen]; omega) (by omega) (Nat.le_trans hbase ((Below.refl w.heap.size w).alloc (Nat.le_refl _) _).size) fun v' w' g1 g2 g3 => ?_
  obtain ⟨A', c', rfl⟩ := own_at g1
  refine h A' c' w' ?_ g2
  unfold StrO
  rw [List.length_append, List.map_append]
  exact g1

theorem byt_eq {s : ByteArray} {l : List UInt8} (h : s.data.toList = l) : Value.string s = strV l := by rw [← h]
theorem app_dat (s z : ByteArray) : (s ++ z).data.toList = s.data.toList ++ z.data.toList := by simp [ByteArray.data_append]
set_option maxHeartbeats 4000000 in
theorem call_any (wd : List UInt8) (l : List (List UInt8)) (v : Value) (B : Nat) (w : World) (hO : StrO w B v l) (hl : l.length ≤ 1000) (hw : wd.length ≤ 1000) (hj : (Lib.join l [44, 32]).length ≤ 1000000000) :
    Calls Tryz.prog 42 #[strV wd, v] w fun e w' => e = .returned (strV (wd ++ brkL l)) ∧ Below w.heap.size w w' := by
  cases l with
  | nil =>
    obtain ⟨a, c, rfl⟩ := hO.sl
    clear hO
    go_enter Tryz.func42, Tryz.ntmps42
    go_wp2_with fail
    go_ret
    exact ⟨by simp [brkL], Below.refl _ _⟩
  | cons x l =>
    have hO' := hO
    obtain ⟨-, h | ⟨g, cap, cur, rfl, hb, hg, hle, hcm, hsz, htk⟩⟩ := hO'
    · simp at h
    have hcells : ∀ (j : Nat) y, ((x :: l).map fun t => (⟨t.toArray⟩ : ByteArray))[j]? = some y → w.cell? ⟨g, 0 + j, none⟩ = some (.string y) := by
      intro j y hy
      have hc := World.ownsRow.cellAt hO j (by simp at hy ⊢; have := (List.getElem?_eq_some_iff.1 hy).1; simp at this; omega)
      rw [Nat.zero_add]
      rw [hc]
      rw [List.getElem?_map] at hy ⊢
      cases hz : (x :: l)[j]? with
      | none => rw [hz] at hy; cases hy
      | some t => rw [hz] at hy; simp at hy; subst hy; rfl
    have hmap : ((x :: l).map fun t => (⟨t.toArray⟩ : ByteArray)).map (·.data.toList) = x :: l := by simp [Function.comp_def]
    have hjoin := strings_Join g 0 cap ((x :: l).map fun t => (⟨t.toArray⟩ : ByteArray)) ⟨#[44, 32]⟩ w hcells (Array.getElem?_eq_some_iff.1 hg).1 (by simp at hl ⊢; omega) (by simpa using hle) (by rw [hmap]; show (Lib.join (x :: l) [44, 32]).length ≤ _; omega)
    rw [hmap] at hjoin
    have hbrk := brkL_join x l
    rw [List.length_map] at hjoin
    obtain ⟨J, hJ⟩ : ∃ J, J = Lib.join (x :: l) [44, 32] := ⟨_, rfl⟩
    rw [← hJ] at hjoin hbrk hj
    clear hJ
    obtain ⟨n, hn⟩ : ∃ n, n = (x :: l).length := ⟨_, rfl⟩
    have hnp : 0 < n := by rw [hn]; simp
    rw [← hn] at hjoin hl ⊢
    clear hn
    have hjoin := hid hjoin
    have hn0 : ((n : Int) == 0) = false := by simp; omega
    have hn1 : ¬ ((n : Int) = 0) := by omega
    have hbrk := hid hbrk
    clear hcells hmap hO hb hg htk hsz
    have hw2 : (⟨wd.toArray⟩ : ByteArray).size ≤ 1000 := by show wd.toArray.size ≤ 1000; simpa using hw
    go_enter Tryz.func42, Tryz.ntmps42
    go_wp2_with (first
      | (go_at_call 67
         with_reducible refine hjoin.out.mono ?_
         rintro e w1 ⟨rfl, hb1⟩
         have hb1 := hid hb1)
      | fail)
    go_ret
    refine ⟨?_, hb1.out⟩
    refine (congrArg Ending.returned (byt_eq ?_))
    rw [hbrk.out]
    simp
end Go.Proofs.YtogopcejapklgaaGreatDoor
