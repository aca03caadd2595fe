/- Lists of numbers in memory. No program in sight. -/
import Derived.Test.YtekmcoflagajkaaGreatDoorBunM
import Derived.Test.YtekmcoflagajkaaGreatDoorRows
import Derived.Laws.OwnMore
import Derived.Deep.QuietTactic
import Derived.BigQuiet
import Derived.Deep.RegionLawGrows
import Derived.Lib.Strings
namespace Go.Proofs.YtekmcoflagajkaaGreatDoor
open Go.RowKit

/-- A list of numbers lies where a slice leads. -/
def IntIn (w : World) (S : Nat → Prop) (a : Option Addr) (n cap : Nat) (l : List Int) : Prop :=
  n = l.length ∧ Sl w S 1 a l.length cap (fun i => [.int .i64 (l[i]?.getD 0)])
namespace IntIn
variable {w w' : World} {S S' : Nat → Prop} {a : Option Addr} {n cap : Nat} {l : List Int}
theorem keep (h : IntIn w S a n cap l) (hk : ∀ b o, S b → w'.cell? ⟨b, o, none⟩ = w.cell? ⟨b, o, none⟩) : IntIn w' S a n cap l := ⟨h.1, h.2.keep hk⟩
theorem widen (h : IntIn w S a n cap l) (hS : ∀ b, S b → S' b) : IntIn w S' a n cap l := ⟨h.1, h.2.widen hS⟩
theorem at_ (h : IntIn w S a n cap l) (i : Nat) (hi : i < l.length) : ∃ b off, a = some ⟨b, off, none⟩ ∧ S b ∧ w.cell? ⟨b, off + i, none⟩ = some (.int .i64 l[i]) := by
  obtain ⟨b, off, rfl, hb, hc⟩ := h.2.at_ (by omega)
  refine ⟨b, off, rfl, hb, ?_⟩
  have := hc i hi 0 (by omega)
  simpa [hi] using this
theorem nil_ : IntIn w S none 0 0 [] := ⟨rfl, Sl.nil⟩
end IntIn
theorem Kp.ints {W0 w : World} (h : Kp W0 w) {a : Option Addr} {n cap : Nat} {l : List Int} (hx : IntIn W0 (In_ W0) a n cap l) : IntIn w (In_ w) a n cap l := (hx.keep fun b o hb => h.2 b o hb).widen (In_.mono h.1.size)

end Go.Proofs.YtekmcoflagajkaaGreatDoor
namespace Go.Proofs.YtekmcoflagajkaaGreatDoor
open Go.RowKit

/-- The cells of one store. -/
def enC (x : Int × Int) : List Value := [.int .i64 x.1, .int .i64 x.2]

/-- A buffer lies where a slice leads. -/
def EnIn (w : World) (S : Nat → Prop) (a : Option Addr) (n cap : Nat) (l : List (Int × Int)) : Prop :=
  n = l.length ∧ Sl w S 2 a l.length cap (fun i => enC (l[i]?.getD (0, 0)))

namespace EnIn
variable {w w' : World} {S S' : Nat → Prop} {a : Option Addr} {n cap : Nat} {l : List (Int × Int)}
theorem keep (h : EnIn w S a n cap l) (hk : ∀ b o, S b → w'.cell? ⟨b, o, none⟩ = w.cell? ⟨b, o, none⟩) : EnIn w' S a n cap l := ⟨h.1, h.2.keep hk⟩
theorem widen (h : EnIn w S a n cap l) (hS : ∀ b, S b → S' b) : EnIn w S' a n cap l := ⟨h.1, h.2.widen hS⟩
theorem at_ (h : EnIn w S a n cap l) (i : Nat) (hi : i < l.length) : ∃ b off, a = some ⟨b, off, none⟩ ∧ S b ∧ w.cell? ⟨b, off + i * 2, none⟩ = some (.int .i64 l[i].1) ∧ w.cell? ⟨b, off + i * 2 + 1, none⟩ = some (.int .i64 l[i].2) := by
  obtain ⟨b, off, rfl, hb, hc⟩ := h.2.at_ (by omega)
  refine ⟨b, off, rfl, hb, ?_, ?_⟩
  · have := hc i hi 0 (by omega)
    simpa [enC, hi] using this
  · have := hc i hi 1 (by omega)
    simpa [enC, hi, Nat.add_assoc] using this
theorem nil_ : EnIn w S none 0 0 [] := ⟨rfl, Sl.nil⟩
/-- All cells, one behind the other. -/
theorem flat (h : EnIn w S a n cap l) : ∀ ad, a = some ad → ∀ j u, (l.flatMap enC)[j]? = some u → w.cell? (ad.add j) = some u := by
  intro ad had j u hu
  have hlen : (l.flatMap enC).length = l.length * 2 := by
    clear hu h
    induction l with
    | nil => rfl
    | cons x l ih => simp [enC, ih]; omega
  have hj : j < l.length * 2 := by
    rw [← hlen]
    exact (List.getElem?_eq_some_iff.1 hu).1
  have hi : j / 2 < l.length := by omega
  obtain ⟨b, off, hb, _, h0, h1⟩ := h.at_ (j / 2) hi
  rw [had] at hb
  obtain rfl : ad = ⟨b, off, none⟩ := by simpa using hb
  have key : ∀ (l : List (Int × Int)) (j : Nat) (hi : j / 2 < l.length), (l.flatMap enC)[j]? = some (if j % 2 = 0 then .int .i64 l[j / 2].1 else .int .i64 l[j / 2].2) := by
    intro l
    induction l with
    | nil => intro j hi; simp at hi
    | cons x l ih =>
      intro j hi
      match j with
      | 0 => simp [enC]
      | 1 => simp [enC]
      | j + 2 =>
        have e : (j + 2) / 2 = j / 2 + 1 := by omega
        have hi' : j / 2 < l.length := by simp at hi; omega
        have := ih j hi'
        simp only [List.flatMap_cons, enC, List.cons_append, List.nil_append, List.getElem?_cons_succ]
        rw [show l.flatMap enC = l.flatMap enC from rfl] at this
        rw [this]
        simp [e, Nat.add_mod_right]
  rw [key l j hi] at hu
  have hadd : (⟨b, off, none⟩ : Addr).add j = ⟨b, off + j, none⟩ := by
    unfold Addr.add
    split
    · rename_i h; subst h; rfl
    · rfl
  rw [hadd]
  by_cases hm : j % 2 = 0
  · rw [if_pos hm] at hu
    have e : off + j / 2 * 2 = off + j := by omega
    rw [e] at h0
    rw [h0]; exact hu
  · rw [if_neg hm] at hu
    have e : off + j / 2 * 2 + 1 = off + j := by omega
    rw [e] at h1
    rw [h1]; exact hu
theorem flat_length (l : List (Int × Int)) : (l.flatMap enC).length = l.length * 2 := by
  induction l with
  | nil => rfl
  | cons x l ih => simp [enC, ih]; omega
theorem flat_get : ∀ (l : List (Int × Int)) (i j : Nat), i < l.length → j < 2 → (l.flatMap enC)[i * 2 + j]? = (enC (l[i]?.getD (0, 0)))[j]?
  | [], i, _, hi, _ => by simp at hi
  | x :: l, 0, j, _, hj => by
    match j, hj with
    | 0, _ => simp [enC]
    | 1, _ => simp [enC]
  | x :: l, i + 1, j, hi, hj => by
    have ih := flat_get l i j (by simpa using hi) hj
    have e : (i + 1) * 2 + j = (i * 2 + j) + 2 := by omega
    rw [e]
    simp only [List.flatMap_cons, enC, List.cons_append, List.nil_append, List.getElem?_cons_succ]
    exact ih
/-- A row of the call's own that holds a buffer's cells is a buffer. -/
theorem of_own {base : Nat} {T : TypeId} {v : Value} (h : w.ownsRow base T 2 v l.length (l.flatMap enC)) : ∃ a cap, v = .slice a l.length cap ∧ EnIn w (fun b => base ≤ b ∧ b < w.heap.size) a l.length cap l := by
  have h' := h
  obtain ⟨_, h⟩ := h
  rcases h with ⟨rfl, h0⟩ | ⟨g, cap, cur, rfl, hb, hg, hle, hcm, hsz, htk⟩
  · refine ⟨none, 0, by rw [h0], ⟨rfl, by omega, Nat.zero_le _, fun hp => absurd hp (by omega)⟩⟩
  · refine ⟨some ⟨g, 0, none⟩, cap, rfl, rfl, hle, hcm, fun _ => ⟨g, 0, rfl, ⟨hb, (Array.getElem?_eq_some_iff.1 hg).1⟩, fun i hi j hj => ?_⟩⟩
    have hf := flat_get l i j hi hj
    cases hv : (enC (l[i]?.getD (0, 0)))[j]? with
    | none => simp [enC] at hv; omega
    | some u =>
      rw [hv] at hf
      have := h'.cells (g := g) rfl _ u hf
      have hadd : (⟨g, 0, none⟩ : Addr).add (i * 2 + j) = ⟨g, 0 + (i * 2 + j), none⟩ := by
        unfold Addr.add
        split
        · rename_i h; rw [h]
        · simp
      rwa [hadd] at this
end EnIn
theorem Kp.en {W0 w : World} (h : Kp W0 w) {a : Option Addr} {n cap : Nat} {l : List (Int × Int)} (hx : EnIn W0 (In_ W0) a n cap l) : EnIn w (In_ w) a n cap l := (hx.keep fun b o hb => h.2 b o hb).widen (In_.mono h.1.size)
theorem enC_one (l : List (Int × Int)) : ∀ u ∈ l.flatMap enC, u.oneCell' = true := by
  intro u hu
  obtain ⟨x, _, hx⟩ := List.mem_flatMap.1 hu
  simp [enC] at hx
  rcases hx with rfl | rfl <;> rfl
end Go.Proofs.YtekmcoflagajkaaGreatDoor
namespace Go.Proofs.YtekmcoflagajkaaGreatDoor
open Go.RowKit

theorem own_at3 {w : World} {B : Nat} {T : TypeId} {sz n : Nat} {v : Value} {xs : List Value} (h : w.ownsRow B T sz v n xs) : ∃ a c, v = .slice a n c := by
  obtain ⟨_, h⟩ := h
  rcases h with ⟨rfl, rfl⟩ | ⟨g, cap, cur, rfl, _⟩
  · exact ⟨_, _, rfl⟩
  · exact ⟨_, _, rfl⟩
theorem own_down3 {w : World} {B B' : Nat} {T : TypeId} {sz n : Nat} {v : Value} {xs : List Value} (h : w.ownsRow B T sz v n xs) (hB : B' ≤ B) : w.ownsRow B' T sz v n xs := by
  obtain ⟨h0, h⟩ := h
  refine ⟨h0, ?_⟩
  rcases h with h | ⟨g, cap, cur, h1, h2, h3⟩
  · exact .inl h
  · exact .inr ⟨g, cap, cur, h1, Nat.le_trans hB h2, h3⟩

theorem i6_info : (Tryz.prog.info? 3).map (fun i => (i.zero, i.size, i.bytes)) = some (some (.int .i64 0), 1, 8) := by kernel_rfl

/-- append of numbers onto a row of the call's own. -/
theorem list_i6 {ops : Array Oper} {rest : List Oper} {o : Oper} {a : Act} {w : World} {base : Nat} {Q : Exit → Act → World → Prop} (s x : Operand) (v : Value) (n : Nat) (xs : List Value) (m : Nat) (news : List Value)
    (hgd : o.guard = none) (ho : o.op = .call { callee := .builtin .append, args := #[s, x], argTypes := #[27, 27] })
    (hsv : a.eval s = v) (hown : w.ownsRow base 3 1 v n xs) (hsrc : ∃ A c, a.eval x = .slice A m c ∧ SrcAt w 1 A m news) (h1 : ∀ u ∈ news, u.oneCell' = true) (hb : n + m ≤ 100000000) (hbase : base ≤ w.heap.size)
    (h : ∀ v' w', w'.ownsRow base 3 1 v' (n + m) (xs ++ news) → w.grownBy w' v.ownBlock → (v'.ownBlock = v.ownBlock ∨ v'.ownBlock = some w.heap.size) → wpList Tryz.prog ops Q rest (a.put o.dst v') w') :
    wpList Tryz.prog ops Q (o :: rest) a w := by
  obtain ⟨i0, hi, hz0, hz1, hz2⟩ := info_parts i6_info
  exact list_app hgd s x ho Tryz.underlying27 hi hz0 hz1 hz2 rfl (by decide) v n xs hsv hown m news hsrc h1 (by simp only [maxLen]; omega) (by omega) hbase h
theorem step_i6 {ops : Array Oper} {o : Oper} {a : Act} {w : World} {base : Nat} {K : Act → World → Prop} {Q : Exit → Act → World → Prop} {E : Prop} (s x : Operand) (v : Value) (n : Nat) (xs : List Value) (m : Nat) (news : List Value)
    (hgd : o.guard = none) (ho : o.op = .call { callee := .builtin .append, args := #[s, x], argTypes := #[27, 27] })
    (hsv : a.eval s = v) (hown : w.ownsRow base 3 1 v n xs) (hsrc : ∃ A c, a.eval x = .slice A m c ∧ SrcAt w 1 A m news) (h1 : ∀ u ∈ news, u.oneCell' = true) (hb : n + m ≤ 100000000) (hbase : base ≤ w.heap.size)
    (h : ∀ v' w', w'.ownsRow base 3 1 v' (n + m) (xs ++ news) → w.grownBy w' v.ownBlock → (v'.ownBlock = v.ownBlock ∨ v'.ownBlock = some w.heap.size) → K (a.put o.dst v') w') :
    if Region.wanted o (yielded ops a.tmps) = true then Oper.wp Tryz.prog o a w K Q else E := by
  obtain ⟨i0, hi, hz0, hz1, hz2⟩ := info_parts i6_info
  exact step_app hgd s x ho Tryz.underlying27 hi hz0 hz1 hz2 rfl (by decide) v n xs hsv hown m news hsrc h1 (by simp only [maxLen]; omega) (by omega) hbase h
theorem one_i6 {p : Int} : ∀ u ∈ [Value.int .i64 p], u.oneCell' = true := by
  intro u hu
  simp at hu
  subst hu
  rfl

/-- What has been collected. -/
def NumIs (w : World) (B : Nat) (o : Value) (L : List Int) : Prop := (∃ a n c, o = .slice a n c) ∧ w.ownsRow B 3 1 o L.length (L.map (Value.int .i64))
theorem NumIs.app {w : World} {B : Nat} {v : Value} {L news : List Int} (h : w.ownsRow B 3 1 v (L.length + news.length) (L.map (Value.int .i64) ++ news.map (Value.int .i64))) : NumIs w B v (L ++ news) := by
  obtain ⟨a, c, e⟩ := own_at3 h
  exact ⟨⟨a, _, c, e⟩, by rw [List.length_append, List.map_append]; exact h⟩
theorem NumIs.nil {w : World} {B : Nat} : NumIs w B (.slice none 0 0) [] := ⟨⟨_, _, _, rfl⟩, World.ownsRow_nil _ _ _ _⟩
/-- A row of the call's own that holds numbers is a list of them. -/
theorem IntIn.of_own {w : World} {base : Nat} {v : Value} {l : List Int} (h : w.ownsRow base 3 1 v l.length (l.map (Value.int .i64))) : ∃ a cap, v = .slice a l.length cap ∧ IntIn w (fun b => base ≤ b ∧ b < w.heap.size) a l.length cap l := by
  have h' := h
  obtain ⟨_, h⟩ := h
  rcases h with ⟨rfl, h0⟩ | ⟨g, cap, cur, rfl, hb, hg, hle, hcm, hsz, htk⟩
  · refine ⟨none, 0, by rw [h0], ⟨rfl, by omega, Nat.zero_le _, fun hp => absurd hp (by omega)⟩⟩
  · refine ⟨some ⟨g, 0, none⟩, cap, rfl, rfl, hle, hcm, fun _ => ⟨g, 0, rfl, ⟨hb, (Array.getElem?_eq_some_iff.1 hg).1⟩, fun i hi j hj => ?_⟩⟩
    obtain rfl : j = 0 := by omega
    have := h'.cells (g := g) rfl i (.int .i64 l[i]) (by simp [hi])
    rw [Addr.add_lit] at this
    simpa [hi] using this
end Go.Proofs.YtekmcoflagajkaaGreatDoor
namespace Go.Proofs.YtekmcoflagajkaaGreatDoor
open Go.RowKit

theorem u8_info : (Tryz.prog.info? 5).map (fun i => (i.zero, i.size, i.bytes)) = some (some (.int .u8 0), 1, 1) := by kernel_rfl

/-- append of bytes onto a row of the call's own. -/
theorem list_by {ops : Array Oper} {rest : List Oper} {o : Oper} {a : Act} {w : World} {base : Nat} {Q : Exit → Act → World → Prop} (s x : Operand) (v : Value) (n : Nat) (xs : List Value) (m : Nat) (news : List Value)
    (hgd : o.guard = none) (ho : o.op = .call { callee := .builtin .append, args := #[s, x], argTypes := #[22, 22] })
    (hsv : a.eval s = v) (hown : w.ownsRow base 5 1 v n xs) (hsrc : ∃ A c, a.eval x = .slice A m c ∧ SrcAt w 1 A m news) (h1 : ∀ u ∈ news, u.oneCell' = true) (hb : n + m ≤ 100000000) (hbase : base ≤ w.heap.size)
    (h : ∀ v' w', w'.ownsRow base 5 1 v' (n + m) (xs ++ news) → w.grownBy w' v.ownBlock → (v'.ownBlock = v.ownBlock ∨ v'.ownBlock = some w.heap.size) → wpList Tryz.prog ops Q rest (a.put o.dst v') w') :
    wpList Tryz.prog ops Q (o :: rest) a w := by
  obtain ⟨i0, hi, hz0, hz1, hz2⟩ := info_parts u8_info
  exact list_app hgd s x ho Tryz.underlying22 hi hz0 hz1 hz2 rfl (by decide) v n xs hsv hown m news hsrc h1 (by simp only [maxLen]; omega) (by omega) hbase h
theorem step_by {ops : Array Oper} {o : Oper} {a : Act} {w : World} {base : Nat} {K : Act → World → Prop} {Q : Exit → Act → World → Prop} {E : Prop} (s x : Operand) (v : Value) (n : Nat) (xs : List Value) (m : Nat) (news : List Value)
    (hgd : o.guard = none) (ho : o.op = .call { callee := .builtin .append, args := #[s, x], argTypes := #[22, 22] })
    (hsv : a.eval s = v) (hown : w.ownsRow base 5 1 v n xs) (hsrc : ∃ A c, a.eval x = .slice A m c ∧ SrcAt w 1 A m news) (h1 : ∀ u ∈ news, u.oneCell' = true) (hb : n + m ≤ 100000000) (hbase : base ≤ w.heap.size)
    (h : ∀ v' w', w'.ownsRow base 5 1 v' (n + m) (xs ++ news) → w.grownBy w' v.ownBlock → (v'.ownBlock = v.ownBlock ∨ v'.ownBlock = some w.heap.size) → K (a.put o.dst v') w') :
    if Region.wanted o (yielded ops a.tmps) = true then Oper.wp Tryz.prog o a w K Q else E := by
  obtain ⟨i0, hi, hz0, hz1, hz2⟩ := info_parts u8_info
  exact step_app hgd s x ho Tryz.underlying22 hi hz0 hz1 hz2 rfl (by decide) v n xs hsv hown m news hsrc h1 (by simp only [maxLen]; omega) (by omega) hbase h
theorem one_by {p : Int} : ∀ u ∈ [Value.int .u8 p], u.oneCell' = true := by
  intro u hu
  simp at hu
  subst hu
  rfl
theorem two_by {p q : Int} : ∀ u ∈ [Value.int .u8 p, Value.int .u8 q], u.oneCell' = true := by
  intro u hu
  simp at hu
  rcases hu with rfl | rfl <;> rfl

/-- string(row): a row of bytes that holds something. -/
theorem conv_row {w : World} {base : Nat} {v : Value} {l : List Int} (h : w.ownsRow base 5 1 v l.length (l.map (Value.int .u8))) (hl : 0 < l.length) :
    (convert 22 9 v).run Tryz.prog w = .ok (.string (strOfNums l)) w := by
  have h' := h
  obtain ⟨_, h⟩ := h
  rcases h with ⟨rfl, h0⟩ | ⟨g, cap, cur, rfl, hb, hg, hle, hcm, hsz, htk⟩
  · omega
  · refine run_convert_bytes_arg (P := Tryz.prog) w 22 5 Tryz.underlying22 Tryz.underlying5 g 0 l.length cap l rfl (fun i hi => ?_) 9 Tryz.underlying9
    have := h'.cells (g := g) rfl i (.int .u8 l[i]) (by simp [hi])
    rw [Addr.add_lit] at this
    rw [this]
    simp [hi]
end Go.Proofs.YtekmcoflagajkaaGreatDoor
namespace Go.Proofs.YtekmcoflagajkaaGreatDoor
open Go.RowKit

theorem EnIn.src {w : World} {S : Nat → Prop} {a : Option Addr} {n cap : Nat} {l : List (Int × Int)} (h : EnIn w S a n cap l) : SrcAt w 2 a n (l.flatMap enC) := by
  refine ⟨by rw [h.1]; exact EnIn.flat_length l, fun ha => ?_, h.flat⟩
  rw [h.1]
  rcases Nat.eq_zero_or_pos l.length with h0 | h0
  · exact h0
  · obtain ⟨b, off, hb, _⟩ := h.2.at_ h0
    rw [ha] at hb
    cases hb

theorem en_info : (Tryz.prog.info? 66).map (fun i => (i.zero, i.size, i.bytes)) = some (some (.agg #[.int .i64 0, .int .i64 0]), 2, 16) := by kernel_rfl

/-- append of stores onto a row of the call's own, as a step of a region. -/
theorem step_en {ops : Array Oper} {o : Oper} {a : Act} {w : World} {base : Nat} {K : Act → World → Prop} {Q : Exit → Act → World → Prop} {E : Prop} (s x : Operand) (v : Value) (n : Nat) (xs : List Value) (m : Nat) (news : List Value)
    (hgd : o.guard = none) (ho : o.op = .call { callee := .builtin .append, args := #[s, x], argTypes := #[62, 62] })
    (hsv : a.eval s = v) (hown : w.ownsRow base 66 2 v n xs) (hsrc : ∃ A c, a.eval x = .slice A m c ∧ SrcAt w 2 A m news) (h1 : ∀ u ∈ news, u.oneCell' = true) (hb : n + m ≤ 1000000) (hbase : base ≤ w.heap.size)
    (h : ∀ v' w', w'.ownsRow base 66 2 v' (n + m) (xs ++ news) → w.grownBy w' v.ownBlock → (v'.ownBlock = v.ownBlock ∨ v'.ownBlock = some w.heap.size) → K (a.put o.dst v') w') :
    if Region.wanted o (yielded ops a.tmps) = true then Oper.wp Tryz.prog o a w K Q else E := by
  obtain ⟨i0, hi, hz0, hz1, hz2⟩ := info_parts en_info
  exact step_app hgd s x ho Tryz.underlying62 hi hz0 hz1 hz2 rfl (by decide) v n xs hsv hown m news hsrc h1 (by simp only [maxLen]; omega) (by omega) hbase h
theorem list_en {ops : Array Oper} {rest : List Oper} {o : Oper} {a : Act} {w : World} {base : Nat} {Q : Exit → Act → World → Prop} (s x : Operand) (v : Value) (n : Nat) (xs : List Value) (m : Nat) (news : List Value)
    (hgd : o.guard = none) (ho : o.op = .call { callee := .builtin .append, args := #[s, x], argTypes := #[62, 62] })
    (hsv : a.eval s = v) (hown : w.ownsRow base 66 2 v n xs) (hsrc : ∃ A c, a.eval x = .slice A m c ∧ SrcAt w 2 A m news) (h1 : ∀ u ∈ news, u.oneCell' = true) (hb : n + m ≤ 1000000) (hbase : base ≤ w.heap.size)
    (h : ∀ v' w', w'.ownsRow base 66 2 v' (n + m) (xs ++ news) → w.grownBy w' v.ownBlock → (v'.ownBlock = v.ownBlock ∨ v'.ownBlock = some w.heap.size) → wpList Tryz.prog ops Q rest (a.put o.dst v') w') :
    wpList Tryz.prog ops Q (o :: rest) a w := by
  obtain ⟨i0, hi, hz0, hz1, hz2⟩ := info_parts en_info
  exact list_app hgd s x ho Tryz.underlying62 hi hz0 hz1 hz2 rfl (by decide) v n xs hsv hown m news hsrc h1 (by simp only [maxLen]; omega) (by omega) hbase h
theorem one_cells {p q : Int} : ∀ u ∈ [Value.int .i64 p, Value.int .i64 q], u.oneCell' = true := by
  intro u hu
  simp at hu
  rcases hu with rfl | rfl <;> rfl

/-- How many stores a new one has to do with. -/
def cnt (m v : Int) (l : List (Int × Int)) : Nat := (l.filter fun y => m == 1 || y.1 == v).length
theorem cnt_snoc (m v : Int) (l : List (Int × Int)) (y : Int × Int) : cnt m v (l ++ [y]) = cnt m v l + if m == 1 || y.1 == v then 1 else 0 := by
  unfold cnt
  rw [List.filter_append]
  by_cases h : (m == 1 || y.1 == v) = true
  · simp [h]
  · simp [h]
theorem cnt_le (m v : Int) (l : List (Int × Int)) : cnt m v l ≤ l.length := List.length_filter_le _ _
/-- A buffer with a store more, and whether there was room. -/
def putL (m b : Int) (x : Int × Int) (l : List (Int × Int)) : List (Int × Int) × Bool :=
  if b ≤ cnt m x.1 l ∨ (m ≠ 1 ∧ m ≠ 2) then (l, false) else (l ++ [x], true)

def PutPost (w : World) (r : List (Int × Int) × Bool) (e : Ending) (w' : World) : Prop :=
  ∃ a cap, e = .returned (.tuple #[.slice a r.1.length cap, .bool r.2]) ∧ EnIn w' (In_ w') a r.1.length cap r.1 ∧ Below w.heap.size w w'


set_option maxHeartbeats 2000000 in
theorem refPut_any (a : Option Addr) (n cap : Nat) (l : List (Int × Int)) (m b v x : Int) (w : World) (hl : EnIn w (In_ w) a n cap l) (hlen : l.length ≤ 1000) :
    Calls Tryz.prog 41 #[.slice a n cap, .agg #[.int .i64 m, .int .i64 b], .agg #[.int .i64 v, .int .i64 x]] w (PutPost w (putL m b (v, x) l)) := by
  have hn := hl.1
  subst hn
  have hcap := hl.2.le
  have hmx := hl.2.mx
  unfold maxLen at hmx
  go_enter Tryz.func41, Tryz.ntmps41
  go_wp2_with fail
  generalize hW : World.alloc (World.alloc w _) _ = W0
  have hB : Below w.heap.size w W0 := by subst hW; exact ((Below.refl _ _).alloc (Nat.le_refl _) _).alloc (by simp) _
  have z0 : w.heap.size < W0.heap.size := by subst hW; simp; omega
  have z1 : w.heap.size + 1 < W0.heap.size := by subst hW; simp
  have m0 : W0.cell? ⟨w.heap.size, 0, none⟩ = some (.int .i64 m) := by subst hW; go_simp
  have m1 : W0.cell? ⟨w.heap.size, 1, none⟩ = some (.int .i64 b) := by subst hW; go_simp
  have x0 : W0.cell? ⟨w.heap.size + 1, 0, none⟩ = some (.int .i64 v) := by subst hW; go_simp
  have x1 : W0.cell? ⟨w.heap.size + 1, 1, none⟩ = some (.int .i64 x) := by subst hW; go_simp
  clear hW
  have hl0 := (Kp.of hB).en hl
  have HB := hid hB
  clear hB
  go_loopw [8, 9] (fun c i wr => ∃ k : Nat, k ≤ l.length ∧ i = .int .i64 k ∧ c = .int .i64 (cnt m v (l.take k)) ∧ Kp W0 wr) (fun _ i _ => l.length - (intOf i).toNat)
  case atStart => exact ⟨0, Nat.zero_le _, rfl, rfl, Kp.refl _⟩
  case round =>
    obtain ⟨k, hk, rfl, rfl, hK⟩ := hrel
    have hc1 : cnt m v (l.take k) ≤ k := Nat.le_trans (cnt_le _ _ _) (List.length_take_le _ _)
    by_cases hlt : k < l.length
    · obtain ⟨bb, off, rfl, hbb, e0, e1⟩ := hl0.at_ k hlt
      have hts : Hid (cnt m v (l.take (k + 1)) = cnt m v (l.take k) + if m == 1 || l[k].1 == v then 1 else 0) := by
        show _ = _
        rw [List.take_succ_eq_append_getElem hlt, cnt_snoc]
      generalize hC : cnt m v (l.take k) = C at *
      clear hC
      have hbl := hbb.lt
      have k0 : (0 : Int) ≤ k := by omega
      have k1 : (k : Int) < l.length := by omega
      by_cases hm : m = 1
      · subst hm
        go_wp2_with fail
        go_quiet (fail)
        go_wp2_with fail
        go_roundw
        case rel => exact ⟨k + 1, by omega, by go_num, by rw [hts.out]; simp, drewN_kp hK nq⟩
        case measure => simp [intOf]; omega
      · have hm1 : (m == 1) = false := by simpa using hm
        by_cases hv : l[k].1 = v
        · have hv1 : (l[k].1 == v) = true := by simpa using hv
          go_wp2_with fail
          go_quiet (fail)
          go_wp2_with fail
          go_roundw
          case rel => exact ⟨k + 1, by omega, by go_num, by rw [hts.out]; simp [hv1], drewN_kp hK nq⟩
          case measure => simp [intOf]; omega
        · have hv1 : (l[k].1 == v) = false := by simpa using hv
          go_wp2_with fail
          go_quiet (fail)
          go_wp2_with fail
          go_roundw
          case rel => exact ⟨k + 1, by omega, by go_num, by rw [hts.out]; simp [hm1, hv1], drewN_kp hK nq⟩
          case measure => simp [intOf]; omega
    · obtain rfl : k = l.length := by omega
      rw [List.take_length] at hc1
      simp only [List.take_length]
      have hput : putL m b (v, x) l = if b ≤ cnt m v l ∨ (m ≠ 1 ∧ m ≠ 2) then (l, false) else (l ++ [(v, x)], true) := rfl
      generalize hC : cnt m v l = C at *
      clear hC
      by_cases hno : b ≤ C ∨ (m ≠ 1 ∧ m ≠ 2)
      · rw [if_pos hno] at hput
        have Hput := hid hput
        clear hput
        have hfin : Hid (PutPost w (l, false) (.returned (.tuple #[.slice a l.length cap, .bool false])) wr) := ⟨a, cap, rfl, hK.en hl0, Kp.fin HB.out hK⟩
        clear hl hl0
        by_cases hm1 : m = 1
        · subst hm1
          have hb : b ≤ C := by omega
          clear hno
          go_wp2_with fail
          go_ret2
          rw [Hput.out]
          exact hfin.out
        · have hm1' : (m != 1) = true := by rw [bne_iff_ne]; exact hm1
          by_cases hm2 : m = 2
          · subst hm2
            have hb : b ≤ C := by omega
            clear hno
            go_wp2_with fail
            go_ret2
            rw [Hput.out]
            exact hfin.out
          · have hm2' : (m != 2) = true := by rw [bne_iff_ne]; exact hm2
            clear hno
            go_wp2_with fail
            go_ret2
            rw [Hput.out]
            exact hfin.out
      · rw [if_neg hno] at hput
        have Hput := hid hput
        clear hput
        have hb : C < b := by omega
        have hm12 : m = 1 ∨ m = 2 := by omega
        clear hno
        have hlr := hK.en hl0
        have HL := hid hl0
        clear hl0 hl
        rcases hm12 with rfl | rfl
        all_goals
          go_wp2_with fail
          go_region_held3 (Kp W0)
            (first | exact Kp.alloc (by assumption) _ | exact Kp.drew (by assumption) | exact hk1)
            (first
              | (refine step_en (base := W0.heap.size) (.const (.slice none 0 0)) (.tmp 46) (.slice none 0 0) 0 [] l.length (l.flatMap enC) ?_ ?_ ?_ ?_ ?_ ?_ ?_ ?_ ?_;
                 (focus rfl); (focus rfl); (focus rfl); (focus exact World.ownsRow_nil _ _ _ _); (focus exact ⟨_, _, rfl, (Kp.en (by assumption) HL.out).src⟩); (focus exact enC_one l); (focus omega); (focus exact (by assumption : Kp W0 _).1.size);
                 intro v1 w1 hown1 hg1 hat1;
                 have hk1 : Kp W0 w1 := Kp.grown (by assumption) hg1 (by simp [Value.ownBlock]))
              | (refine step_en (base := W0.heap.size) (.tmp 47) (.tmp 49) v1 (0 + l.length) ([] ++ l.flatMap enC) 1 [.int .i64 v, .int .i64 x] ?_ ?_ ?_ ?_ ?_ ?_ ?_ ?_ ?_;
                 (focus rfl); (focus rfl); (focus rfl); (focus (first | exact hown1 | exact hown1.alloc _)); (focus (first | exact ⟨_, _, rfl, src_new rfl⟩ | exact ⟨_, _, rfl, (src_new_d rfl).grown hg1 (.inl rfl)⟩)); (focus exact one_cells);
                 (focus omega); (focus exact (by assumption : Kp W0 _).1.size);
                 intro v2 w2 hown2 hg2 hat2;
                 have hk1 : Kp W0 w2 := Kp.grown (by assumption) hg2 (fun k hk => (hown1.lt k hk).1))
              | fail)
          all_goals
            rename_i hKp
            have hown3 : w2.ownsRow W0.heap.size 66 2 v2 (l ++ [(v, x)]).length ((l ++ [(v, x)]).flatMap enC) := by simpa [enC] using hown2
            obtain ⟨a3, cap3, rfl, hen⟩ := EnIn.of_own hown3
            have hfin : Hid (PutPost w (l ++ [(v, x)], true) (.returned (.tuple #[.slice a3 (l ++ [(v, x)]).length cap3, .bool true])) w2) := ⟨a3, cap3, rfl, hen.widen fun b hb => hb.2, Kp.fin HB.out hKp⟩
            clear hown1 hown2 hown3 hen hg1 hg2 HL hlr
            go_wp2_with fail
            go_ret2
            rw [Hput.out]
            exact hfin.out
end Go.Proofs.YtekmcoflagajkaaGreatDoor
namespace Go.Proofs.YtekmcoflagajkaaGreatDoor
open Go.RowKit

/-- Two entries compared. -/
@[go_sem] theorem neqEn (a b c d : Int) (w : World) : (binOp .neq 66 (.agg #[.int .i64 a, .int .i64 b]) (.agg #[.int .i64 c, .int .i64 d])).run Tryz.prog w = .ok (.bool (!(a == c && b == d))) w := by
  have hS : Tryz.prog.underlying 66 = some (.struct (Tryz.prog.fieldsOf 66)) := by kernel_rfl
  have hp : Tryz.prog.stoodInHeld 66 = false := by kernel_rfl
  rw [run_neq_struct, show (10000 : Nat) = 9999 + 1 from rfl, run_equalIn_agg w 9999 _ _ _ hS hp]
  simp only [Program.fieldsOf, Tryz.underlying66]
  go_simp
  by_cases h1 : a = c <;> by_cases h2 : b = d <;> simp [h1, h2]
@[go_sem] theorem guardEn (op : BinOp) (x y : Operand) (xs ys : Array Value) (w : World) : (eqGuard op 66 x y (.agg xs) (.agg ys)).run Tryz.prog w = .ok () w := run_eqGuard_agg w op _ x y xs ys (by kernel_rfl)

set_option maxHeartbeats 2000000 in
theorem enSame_any (a a' : Option Addr) (n cap n' cap' : Nat) (l l' : List (Int × Int)) (w : World) (hl : EnIn w (In_ w) a n cap l) (hl' : EnIn w (In_ w) a' n' cap' l') :
    Calls Tryz.prog 30 #[.slice a n cap, .slice a' n' cap'] w fun e w' => e = .returned (.bool (decide (l = l'))) ∧ Below w.heap.size w w' := by
  have hn := hl.1
  have hn' := hl'.1
  subst hn hn'
  have hcap := hl.2.le
  have hmx := hl.2.mx
  have hcap' := hl'.2.le
  have hmx' := hl'.2.mx
  unfold maxLen at hmx hmx'
  by_cases hlen : l.length = l'.length
  case neg =>
    have hb : ((l.length : Int) != l'.length) = true := by rw [bne_iff_ne]; omega
    have hne : Hid (decide (l = l') = false) := by show _ = _; rw [decide_eq_false_iff_not]; intro h; rw [h] at hlen; exact hlen rfl
    go_enter Tryz.func30, Tryz.ntmps30
    go_wp2
    go_ret
    exact ⟨by rw [hne.out]; rfl, Below.refl _ _⟩
  have hb : ((l.length : Int) != l'.length) = false := by rw [bne_eq_false_iff_eq]; omega
  have Hlen := hid hlen
  clear hlen
  go_enter Tryz.func30, Tryz.ntmps30
  go_wp2_with fail
  go_loopw [5] (fun i wr => ∃ k : Nat, k ≤ l.length ∧ i = .int .i64 k ∧ Hid (l.take k = l'.take k) ∧ Kp w wr) (fun i _ => l.length - (intOf i).toNat)
  case atStart => exact ⟨0, Nat.zero_le _, rfl, rfl, Kp.refl _⟩
  case round =>
    obtain ⟨k, hk, rfl, heq, hK⟩ := hrel
    by_cases hlt : k < l.length
    · obtain ⟨bb, off, rfl, hbb, e0, e1⟩ := hl.at_ k hlt
      obtain ⟨bb', off', rfl, hbb', e0', e1'⟩ := hl'.at_ k (by have := Hlen.out; omega)
      have hbl := hbb.lt
      have hbl' := hbb'.lt
      have k0 : (0 : Int) ≤ k := by omega
      have k1 : (k : Int) < l.length := by omega
      have k2 : (k : Int) < l'.length := by have := Hlen.out; omega
      have ht := List.take_succ_eq_append_getElem hlt
      have ht' := List.take_succ_eq_append_getElem (l := l') (i := k) (by have := Hlen.out; omega)
      by_cases hv : l[k] = l'[k]'(by have := Hlen.out; omega)
      · have h1 : (l[k].1 == (l'[k]'(by have := Hlen.out; omega)).1) = true := by rw [hv]; exact beq_self_eq_true _
        have h2 : (l[k].2 == (l'[k]'(by have := Hlen.out; omega)).2) = true := by rw [hv]; exact beq_self_eq_true _
        have hx : Hid (l.take (k + 1) = l'.take (k + 1)) := by show _ = _; rw [ht, ht', heq.out, hv]
        clear ht ht' hv heq
        go_wp2_with fail
        go_region_held3 (Kp w) (first | assumption | exact hK.drew) (fail)
        rename_i hKp
        go_wp2
        go_roundw
        case rel => exact ⟨k + 1, by omega, by simp, hx, hKp⟩
        case measure => simp [intOf]; omega
      · have hx : Hid (decide (l = l') = false) := by
          show _ = _
          rw [decide_eq_false_iff_not]
          intro h
          subst h
          exact hv rfl
        by_cases hv1 : l[k].1 = (l'[k]'(by have := Hlen.out; omega)).1
        · have h1 : (l[k].1 == (l'[k]'(by have := Hlen.out; omega)).1) = true := by rw [hv1]; exact beq_self_eq_true _
          have h2 : (l[k].2 == (l'[k]'(by have := Hlen.out; omega)).2) = false := by
            rw [beq_eq_false_iff_ne]; intro h2; exact hv (Prod.ext hv1 h2)
          clear ht ht' hv heq hv1
          go_wp2_with fail
          go_region_held3 (Kp w) (first | assumption | exact hK.drew) (fail)
          rename_i hKp
          go_wp2
          go_ret
          exact ⟨by rw [hx.out]; rfl, hKp.1⟩
        · have h1 : (l[k].1 == (l'[k]'(by have := Hlen.out; omega)).1) = false := by rw [beq_eq_false_iff_ne]; exact hv1
          clear ht ht' hv heq hv1
          go_wp2_with fail
          go_region_held3 (Kp w) (first | assumption | exact hK.drew) (fail)
          rename_i hKp
          go_wp2
          go_ret
          exact ⟨by rw [hx.out]; rfl, hKp.1⟩
    · have k1 : ¬ (k : Int) < l.length := by omega
      have hx : Hid (decide (l = l') = true) := by
        show _ = _
        rw [decide_eq_true_iff]
        have h := heq.out
        rw [List.take_of_length_le (by omega), List.take_of_length_le (by have := Hlen.out; omega)] at h
        exact h
      clear heq
      go_wp2
      go_ret
      exact ⟨by rw [hx.out]; rfl, hK.1⟩
end Go.Proofs.YtekmcoflagajkaaGreatDoor
namespace Go.Proofs.YtekmcoflagajkaaGreatDoor
open Go.RowKit

set_option maxHeartbeats 1000000 in
theorem clip_any (a : Option Addr) (n cap : Nat) (w : World) (hc : n ≤ cap) (_hm : cap ≤ maxLen) :
    Calls Tryz.prog 71 #[.slice a n cap] w fun e w' => e = .returned (.slice a n n) ∧ w' = w := by
  unfold maxLen at _hm
  go_enter Tryz.func71, Tryz.ntmps71
  cases a with
  | none =>
    go_wp2_with fail
    go_ret
    exact ⟨rfl, rfl⟩
  | some ad =>
    go_wp2_with fail
    go_ret
    exact ⟨rfl, rfl⟩

/-- append of stores onto a slice that is full, as a step of a region. -/
theorem step_full {ops : Array Oper} {o : Oper} {a : Act} {w : World} {K : Act → World → Prop} {Q : Exit → Act → World → Prop} {E : Prop} (s x : Operand) (ao : Option Addr) (l : List (Int × Int)) (p q : Int)
    (hgd : o.guard = none) (ho : o.op = .call { callee := .builtin .append, args := #[s, x], argTypes := #[62, 62] })
    (hsv : a.eval s = .slice ao l.length l.length) (hsrc : SrcAt w 2 ao l.length (l.flatMap enC)) (hx : ∃ ad c, a.eval x = .slice (some ad) 1 c ∧ SrcAt w 2 (some ad) 1 [.int .i64 p, .int .i64 q]) (hb : l.length ≤ 1000000)
    (h : ∀ v' w', w'.ownsRow w.heap.size 66 2 v' (l.length + 1) (l.flatMap enC ++ [.int .i64 p, .int .i64 q]) → w.grownBy w' none → K (a.put o.dst v') w') :
    if Region.wanted o (yielded ops a.tmps) = true then Oper.wp Tryz.prog o a w K Q else E := by
  obtain ⟨i0, hi, hz0, hz1, hz2⟩ := info_parts en_info
  obtain ⟨ad, c, hx, hc⟩ := hx
  refine step_append_grows hgd s x _ ho _ i0 _ 2 16 Tryz.underlying62 hi hz0 hz1 hz2 rfl (by decide) ao l.length l.length (l.flatMap enC) hsv (fun h0 => ?_) (EnIn.flat_length l) (fun b hb' => hsrc.2.2 b hb') ad 1 c [.int .i64 p, .int .i64 q] hx rfl (hc.2.2 ad rfl) one_cells (by omega) (by simp only [maxLen]; omega) (by omega) h
  have := hsrc.2.1 h0
  omega

set_option maxRecDepth 100000 in
set_option maxHeartbeats 4000000 in
theorem put_any (a : Option Addr) (n cap : Nat) (l : List (Int × Int)) (m b v x : Int) (w : World) (hl : EnIn w (In_ w) a n cap l) (hlen : l.length ≤ 1000) :
    Calls Tryz.prog 59 #[.slice a n cap, .agg #[.int .i64 m, .int .i64 b], .agg #[.int .i64 v, .int .i64 x]] w (PutPost w (putL m b (v, x) l)) := by
  have hn := hl.1
  subst hn
  have hcap := hl.2.le
  have hmx := hl.2.mx
  unfold maxLen at hmx
  go_enter Tryz.func59, Tryz.ntmps59
  go_wp2_with fail
  generalize hW : World.alloc (World.alloc w _) _ = W0
  have hB : Below w.heap.size w W0 := by subst hW; exact ((Below.refl _ _).alloc (Nat.le_refl _) _).alloc (by simp) _
  have z0 : w.heap.size < W0.heap.size := by subst hW; simp; omega
  have z1 : w.heap.size + 1 < W0.heap.size := by subst hW; simp
  have m0 : W0.cell? ⟨w.heap.size, 0, none⟩ = some (.int .i64 m) := by subst hW; go_simp
  have m1 : W0.cell? ⟨w.heap.size, 1, none⟩ = some (.int .i64 b) := by subst hW; go_simp
  have x0 : W0.cell? ⟨w.heap.size + 1, 0, none⟩ = some (.int .i64 v) := by subst hW; go_simp
  have x1 : W0.cell? ⟨w.heap.size + 1, 1, none⟩ = some (.int .i64 x) := by subst hW; go_simp
  clear hW
  have hl0 := (Kp.of hB).en hl
  have HB := hid hB
  clear hB
  go_loopw [8, 13] (fun c i wr => ∃ k : Nat, k ≤ l.length ∧ i = .int .i64 k ∧ c = .int .i64 (cnt m v (l.take k)) ∧ Kp W0 wr) (fun _ i _ => l.length - (intOf i).toNat)
  case atStart => exact ⟨0, Nat.zero_le _, rfl, rfl, Kp.refl _⟩
  case round =>
    obtain ⟨k, hk, rfl, rfl, hK⟩ := hrel
    have hc1 : cnt m v (l.take k) ≤ k := Nat.le_trans (cnt_le _ _ _) (List.length_take_le _ _)
    by_cases hlt : k < l.length
    · obtain ⟨bb, off, rfl, hbb, e0, e1⟩ := hl0.at_ k hlt
      have hts : Hid (cnt m v (l.take (k + 1)) = cnt m v (l.take k) + if m == 1 || l[k].1 == v then 1 else 0) := by
        show _ = _
        rw [List.take_succ_eq_append_getElem hlt, cnt_snoc]
      generalize hC : cnt m v (l.take k) = C at *
      clear hC
      have hbl := hbb.lt
      have k0 : (0 : Int) ≤ k := by omega
      have k1 : (k : Int) < l.length := by omega
      have g0 : w.heap.size < wr.heap.size := by have := hK.1.size; omega
      have g1 : w.heap.size + 1 < wr.heap.size := by have := hK.1.size; omega
      have g2 : bb < wr.heap.size := by have := hK.1.size; omega
      by_cases hm : m = 1
      · subst hm
        go_wp2_with fail
        go_roundw
        case rel => exact ⟨k + 1, by omega, by go_num, by rw [hts.out]; simp, hK.alloc _⟩
        case measure => simp [intOf]; omega
      · have hm1 : (m == 1) = false := by simpa using hm
        by_cases hv : l[k].1 = v
        · have hv1 : (l[k].1 == v) = true := by simpa using hv
          go_wp2_with fail
          go_roundw
          case rel => exact ⟨k + 1, by omega, by go_num, by rw [hts.out]; simp [hv1], hK.alloc _⟩
          case measure => simp [intOf]; omega
        · have hv1 : (l[k].1 == v) = false := by simpa using hv
          go_wp2_with fail
          go_roundw
          case rel => exact ⟨k + 1, by omega, by go_num, by rw [hts.out]; simp [hm1, hv1], hK.alloc _⟩
          case measure => simp [intOf]; omega
    · obtain rfl : k = l.length := by omega
      rw [List.take_length] at hc1
      simp only [List.take_length]
      have hput : putL m b (v, x) l = if b ≤ cnt m v l ∨ (m ≠ 1 ∧ m ≠ 2) then (l, false) else (l ++ [(v, x)], true) := rfl
      generalize hC : cnt m v l = C at *
      clear hC
      by_cases hno : b ≤ C ∨ (m ≠ 1 ∧ m ≠ 2)
      · rw [if_pos hno] at hput
        have Hput := hid hput
        clear hput
        have hfin : Hid (PutPost w (l, false) (.returned (.tuple #[.slice a l.length cap, .bool false])) wr) := ⟨a, cap, rfl, hK.en hl0, Kp.fin HB.out hK⟩
        clear hl hl0
        by_cases hb : b ≤ C
        · clear hno
          go_wp2_with fail
          go_ret2
          rw [Hput.out]
          exact hfin.out
        · have hb' : C < b := by omega
          have hm1 : (m != 1) = true := by rw [bne_iff_ne]; omega
          have hm2 : (m != 2) = true := by rw [bne_iff_ne]; omega
          clear hno
          go_wp2_with fail
          go_ret2
          rw [Hput.out]
          exact hfin.out
      · rw [if_neg hno] at hput
        have Hput := hid hput
        clear hput
        have hb : C < b := by omega
        have hm12 : m = 1 ∨ m = 2 := by omega
        clear hno
        have HL := hid hl0
        clear hl0 hl
        have hmx2 : l.length ≤ maxLen := by unfold maxLen; omega
        rcases hm12 with rfl | rfl
        all_goals
          go_wp2_with fail
          go_region_held3 (Kp W0)
            (first | exact Kp.alloc (by assumption) _ | exact Kp.drew (by assumption) | assumption | exact hk1)
            (first
              | (go_at_call 71; (with_reducible refine (clip_any a l.length cap _ hcap (by unfold maxLen; exact hmx)).mono ?_); rintro e w1 ⟨rfl, rfl⟩)
              | (refine step_full (.tmp 46) (.tmp 48) a l v x ?_ ?_ ?_ ?_ ?_ ?_ ?_;
                 (focus rfl); (focus rfl); (focus rfl); (focus exact (Kp.en (by assumption) HL.out).src); (focus (first | exact ⟨_, _, rfl, src_new rfl⟩ | exact ⟨_, _, rfl, src_new_d rfl⟩)); (focus omega);
                 intro v2 w2 hown2 hg2;
                 have hk1 : Kp W0 w2 := Kp.grown (by assumption) hg2 (fun k hk => by cases hk))
              | fail)
          all_goals
            rename_i hKp
            obtain ⟨B, hown3⟩ : ∃ B, w2.ownsRow B 66 2 v2 (l ++ [(v, x)]).length ((l ++ [(v, x)]).flatMap enC) := ⟨_, by simpa [enC] using hown2⟩
            obtain ⟨a3, cap3, rfl, hen⟩ := EnIn.of_own hown3
            have hfin : Hid (PutPost w (l ++ [(v, x)], true) (.returned (.tuple #[.slice a3 (l ++ [(v, x)]).length cap3, .bool true])) w2) := ⟨a3, cap3, rfl, hen.widen fun b hb => hb.2, Kp.fin HB.out hKp⟩
            clear hown2 hown3 hen hg2 HL
            go_wp2_with fail
            go_ret2
            rw [Hput.out]
            exact hfin.out
end Go.Proofs.YtekmcoflagajkaaGreatDoor
namespace Go.Proofs.YtekmcoflagajkaaGreatDoor
open Go.RowKit

/-- A text's bytes as numbers. -/
def bytL (s : ByteArray) : List Int := s.data.toList.map fun c => (c.toNat : Int)
theorem bytL_len (s : ByteArray) : (bytL s).length = s.size := by unfold bytL; rw [List.length_map]; rfl
theorem bytL_get (s : ByteArray) (k : Nat) (h : k < s.size) : (bytL s)[k]'(by rw [bytL_len]; exact h) = (s[k].toNat : Int) := by
  unfold bytL
  simp
  rfl
theorem bytL_snoc (s : ByteArray) (k : Nat) (h : k < s.size) : (bytL s).take (k + 1) = (bytL s).take k ++ [(s[k].toNat : Int)] := by
  rw [List.take_succ_eq_append_getElem (by rw [bytL_len]; exact h), bytL_get s k h]
theorem bytL_byte (s : ByteArray) (k : Nat) : ∃ n : Nat, n ≤ 255 ∧ (bytL s).getD k 0 = (n : Int) := by
  by_cases h : k < s.size
  · refine ⟨s[k].toNat, by have := s[k].toNat_lt; omega, ?_⟩
    rw [← bytL_get s k h]
    exact (List.getElem_eq_getD (fallback := 0)).symm
  · refine ⟨0, by omega, ?_⟩
    rw [List.getD_eq_getElem?_getD, List.getElem?_eq_none (by rw [bytL_len]; omega)]
    rfl
theorem bytL_drop (s : ByteArray) (k : Nat) : bytL (s.extract k s.size) = (bytL s).drop k := by
  unfold bytL
  rw [Lib.extract_data, List.map_take, List.map_drop, List.take_of_length_le]
  rw [List.length_drop, List.length_map]
  exact Nat.le_refl _

/-- So many bytes and what is behind, or there are too few. -/
def BytPost (w : World) (L : List Int) (n : Nat) (e : Ending) (w' : World) : Prop :=
  ∃ a cap s', e = .returned (.tuple #[.slice a n cap, .string s', .bool true]) ∧ IntIn w' (fun b => w.heap.size ≤ b ∧ b < w'.heap.size) a n cap (L.take n) ∧ bytL s' = L.drop n ∧ Below w.heap.size w w'

set_option maxHeartbeats 2000000 in
theorem take_no (s : ByteArray) (n : Int) (w : World) (h : (s.size : Int) < n) :
    Calls Tryz.prog 42 #[.string s, .int .i64 n] w fun e w' => e = .returned (.tuple #[.slice none 0 0, .string { data := #[] }, .bool false]) ∧ w = w' := by
  go_enter Tryz.func42, Tryz.ntmps42
  go_wp2_with fail
  go_ret3
  exact ⟨rfl, rfl⟩

set_option maxHeartbeats 2000000 in
theorem take_ok (s : ByteArray) (n : Nat) (w : World) (h : n ≤ s.size) (hn : n ≤ 10000) (hs : s.size ≤ 100000) :
    Calls Tryz.prog 42 #[.string s, .int .i64 n] w (BytPost w (bytL s) n) := by
  have h0 : (0 : Int) ≤ n := by omega
  have h1 : ¬ (s.size : Int) < n := by omega
  go_enter Tryz.func42, Tryz.ntmps42
  go_wp2_with fail
  go_loopw [7, 8] (fun o i wr => ∃ k : Nat, k ≤ n ∧ i = .int .i64 k ∧ Kp w wr ∧ Hid (NumIs wr w.heap.size o ((bytL s).take k))) (fun _ i _ => n - (intOf i).toNat)
  case atStart => exact ⟨0, Nat.zero_le _, rfl, Kp.refl _, NumIs.nil⟩
  case round =>
    obtain ⟨k, hk, rfl, hK, hO⟩ := hrel
    obtain ⟨⟨a1, n1, c1, rfl⟩, hown⟩ := hO.out
    have hown := hid hown
    clear hO
    by_cases hlt : k < n
    · have hks : k < s.size := by omega
      have hts := hid (bytL_snoc s k hks)
      have hle : Hid (((bytL s).take k).length ≤ 10000) := by show _ ≤ _; rw [List.length_take]; omega
      have k0 : (0 : Int) ≤ k := by omega
      have k1 : (k : Int) < n := by omega
      have k2 : (k : Int) < s.size := by omega
      generalize (bytL s).take k = C at *
      have b0 : (0 : Int) ≤ s[k].toNat := by omega
      have b1 : (s[k].toNat : Int) < 256 := by have := s[k].toNat_lt; omega
      have g0 := hK.1.size
      go_wp2_with (first
        | (at_builtin
           refine list_i6 (base := w.heap.size) (.tmp 18) (.tmp 23) (.slice a1 n1 c1) C.length (C.map (Value.int .i64)) 1 [.int .i64 s[k].toNat] ?_ ?_ ?_ ?_ ?_ ?_ ?_ ?_ ?_
           (focus rfl); (focus rfl); (focus rfl); (focus exact hown.out.alloc _); (focus exact ⟨_, _, rfl, src_new rfl⟩); (focus exact one_i6); (focus (have := hle.out; omega)); (focus (simp; omega))
           intro v2 w2 hown2 hg2 hat2
           have hk1 : Kp w w2 := Kp.grown (hK.alloc _) hg2 (fun k hk => (hown.out.lt k hk).1))
        | fail)
      have hO2 := hid (NumIs.app (L := C) (news := [(s[k].toNat : Int)]) hown2)
      clear hown2 hg2 hat2 hown
      obtain ⟨⟨a2, n2, c2, rfl⟩, _⟩ := hO2.out
      go_roundw
      case rel => exact ⟨k + 1, by omega, by simp, hk1, by rw [hts.out]; exact hO2⟩
      case measure => simp [intOf]; omega
    · obtain rfl : k = n := by omega
      have hlen : ((bytL s).take k).length = k := by rw [List.length_take, bytL_len]; omega
      obtain ⟨a9, c9, e9, hin⟩ := IntIn.of_own hown.out
      rw [hlen] at e9 hin
      obtain ⟨rfl, rfl, rfl⟩ : a1 = a9 ∧ n1 = k ∧ c1 = c9 := by simpa using e9
      have hin := hid hin
      clear hlen e9 hown
      go_wp2_with fail
      go_quiet (fail)
      go_wp2
      go_ret3
      exact ⟨_, _, _, rfl, IntIn.keep (w' := wr.drewN nq) hin.out (fun _ _ _ => rfl), bytL_drop s n1, (drewN_kp hK nq).1⟩
end Go.Proofs.YtekmcoflagajkaaGreatDoor
namespace Go.Proofs.YtekmcoflagajkaaGreatDoor
open Go.RowKit

def PutPostN (w : World) (r : List (Int × Int) × Bool) (e : Ending) (w' : World) : Prop :=
  ∃ a cap, e = .returned (.tuple #[.slice a r.1.length cap, .bool r.2]) ∧ (r.2 = true → EnIn w' (fun b => w.heap.size ≤ b ∧ b < w'.heap.size) a r.1.length cap r.1) ∧ Below w.heap.size w w'

set_option maxHeartbeats 2000000 in
theorem refPutN_any (a : Option Addr) (n cap : Nat) (l : List (Int × Int)) (m b v x : Int) (w : World) (hl : EnIn w (In_ w) a n cap l) (hlen : l.length ≤ 1000) :
    Calls Tryz.prog 41 #[.slice a n cap, .agg #[.int .i64 m, .int .i64 b], .agg #[.int .i64 v, .int .i64 x]] w (PutPostN w (putL m b (v, x) l)) := by
  have hn := hl.1
  subst hn
  have hcap := hl.2.le
  have hmx := hl.2.mx
  unfold maxLen at hmx
  go_enter Tryz.func41, Tryz.ntmps41
  go_wp2_with fail
  generalize hW : World.alloc (World.alloc w _) _ = W0
  have hB : Below w.heap.size w W0 := by subst hW; exact ((Below.refl _ _).alloc (Nat.le_refl _) _).alloc (by simp) _
  have z0 : w.heap.size < W0.heap.size := by subst hW; simp; omega
  have z1 : w.heap.size + 1 < W0.heap.size := by subst hW; simp
  have m0 : W0.cell? ⟨w.heap.size, 0, none⟩ = some (.int .i64 m) := by subst hW; go_simp
  have m1 : W0.cell? ⟨w.heap.size, 1, none⟩ = some (.int .i64 b) := by subst hW; go_simp
  have x0 : W0.cell? ⟨w.heap.size + 1, 0, none⟩ = some (.int .i64 v) := by subst hW; go_simp
  have x1 : W0.cell? ⟨w.heap.size + 1, 1, none⟩ = some (.int .i64 x) := by subst hW; go_simp
  clear hW
  have hl0 := (Kp.of hB).en hl
  have HB := hid hB
  clear hB
  go_loopw [8, 9] (fun c i wr => ∃ k : Nat, k ≤ l.length ∧ i = .int .i64 k ∧ c = .int .i64 (cnt m v (l.take k)) ∧ Kp W0 wr) (fun _ i _ => l.length - (intOf i).toNat)
  case atStart => exact ⟨0, Nat.zero_le _, rfl, rfl, Kp.refl _⟩
  case round =>
    obtain ⟨k, hk, rfl, rfl, hK⟩ := hrel
    have hc1 : cnt m v (l.take k) ≤ k := Nat.le_trans (cnt_le _ _ _) (List.length_take_le _ _)
    by_cases hlt : k < l.length
    · obtain ⟨bb, off, rfl, hbb, e0, e1⟩ := hl0.at_ k hlt
      have hts : Hid (cnt m v (l.take (k + 1)) = cnt m v (l.take k) + if m == 1 || l[k].1 == v then 1 else 0) := by
        show _ = _
        rw [List.take_succ_eq_append_getElem hlt, cnt_snoc]
      generalize hC : cnt m v (l.take k) = C at *
      clear hC
      have hbl := hbb.lt
      have k0 : (0 : Int) ≤ k := by omega
      have k1 : (k : Int) < l.length := by omega
      by_cases hm : m = 1
      · subst hm
        go_wp2_with fail
        go_quiet (fail)
        go_wp2_with fail
        go_roundw
        case rel => exact ⟨k + 1, by omega, by go_num, by rw [hts.out]; simp, drewN_kp hK nq⟩
        case measure => simp [intOf]; omega
      · have hm1 : (m == 1) = false := by simpa using hm
        by_cases hv : l[k].1 = v
        · have hv1 : (l[k].1 == v) = true := by simpa using hv
          go_wp2_with fail
          go_quiet (fail)
          go_wp2_with fail
          go_roundw
          case rel => exact ⟨k + 1, by omega, by go_num, by rw [hts.out]; simp [hv1], drewN_kp hK nq⟩
          case measure => simp [intOf]; omega
        · have hv1 : (l[k].1 == v) = false := by simpa using hv
          go_wp2_with fail
          go_quiet (fail)
          go_wp2_with fail
          go_roundw
          case rel => exact ⟨k + 1, by omega, by go_num, by rw [hts.out]; simp [hm1, hv1], drewN_kp hK nq⟩
          case measure => simp [intOf]; omega
    · obtain rfl : k = l.length := by omega
      rw [List.take_length] at hc1
      simp only [List.take_length]
      have hput : putL m b (v, x) l = if b ≤ cnt m v l ∨ (m ≠ 1 ∧ m ≠ 2) then (l, false) else (l ++ [(v, x)], true) := rfl
      generalize hC : cnt m v l = C at *
      clear hC
      by_cases hno : b ≤ C ∨ (m ≠ 1 ∧ m ≠ 2)
      · rw [if_pos hno] at hput
        have Hput := hid hput
        clear hput
        have hfin : Hid (PutPostN w (l, false) (.returned (.tuple #[.slice a l.length cap, .bool false])) wr) := ⟨a, cap, rfl, fun h => (by cases h), Kp.fin HB.out hK⟩
        clear hl hl0
        by_cases hm1 : m = 1
        · subst hm1
          have hb : b ≤ C := by omega
          clear hno
          go_wp2_with fail
          go_ret2
          rw [Hput.out]
          exact hfin.out
        · have hm1' : (m != 1) = true := by rw [bne_iff_ne]; exact hm1
          by_cases hm2 : m = 2
          · subst hm2
            have hb : b ≤ C := by omega
            clear hno
            go_wp2_with fail
            go_ret2
            rw [Hput.out]
            exact hfin.out
          · have hm2' : (m != 2) = true := by rw [bne_iff_ne]; exact hm2
            clear hno
            go_wp2_with fail
            go_ret2
            rw [Hput.out]
            exact hfin.out
      · rw [if_neg hno] at hput
        have Hput := hid hput
        clear hput
        have hb : C < b := by omega
        have hm12 : m = 1 ∨ m = 2 := by omega
        clear hno
        have hlr := hK.en hl0
        have HL := hid hl0
        clear hl0 hl
        rcases hm12 with rfl | rfl
        all_goals
          go_wp2_with fail
          go_region_held3 (Kp W0)
            (first | exact Kp.alloc (by assumption) _ | exact Kp.drew (by assumption) | exact hk1)
            (first
              | (refine step_en (base := W0.heap.size) (.const (.slice none 0 0)) (.tmp 46) (.slice none 0 0) 0 [] l.length (l.flatMap enC) ?_ ?_ ?_ ?_ ?_ ?_ ?_ ?_ ?_;
                 (focus rfl); (focus rfl); (focus rfl); (focus exact World.ownsRow_nil _ _ _ _); (focus exact ⟨_, _, rfl, (Kp.en (by assumption) HL.out).src⟩); (focus exact enC_one l); (focus omega); (focus exact (by assumption : Kp W0 _).1.size);
                 intro v1 w1 hown1 hg1 hat1;
                 have hk1 : Kp W0 w1 := Kp.grown (by assumption) hg1 (by simp [Value.ownBlock]))
              | (refine step_en (base := W0.heap.size) (.tmp 47) (.tmp 49) v1 (0 + l.length) ([] ++ l.flatMap enC) 1 [.int .i64 v, .int .i64 x] ?_ ?_ ?_ ?_ ?_ ?_ ?_ ?_ ?_;
                 (focus rfl); (focus rfl); (focus rfl); (focus (first | exact hown1 | exact hown1.alloc _)); (focus (first | exact ⟨_, _, rfl, src_new rfl⟩ | exact ⟨_, _, rfl, (src_new_d rfl).grown hg1 (.inl rfl)⟩)); (focus exact one_cells);
                 (focus omega); (focus exact (by assumption : Kp W0 _).1.size);
                 intro v2 w2 hown2 hg2 hat2;
                 have hk1 : Kp W0 w2 := Kp.grown (by assumption) hg2 (fun k hk => (hown1.lt k hk).1))
              | fail)
          all_goals
            rename_i hKp
            have hown3 : w2.ownsRow W0.heap.size 66 2 v2 (l ++ [(v, x)]).length ((l ++ [(v, x)]).flatMap enC) := by simpa [enC] using hown2
            obtain ⟨a3, cap3, rfl, hen⟩ := EnIn.of_own hown3
            have hfin : Hid (PutPostN w (l ++ [(v, x)], true) (.returned (.tuple #[.slice a3 (l ++ [(v, x)]).length cap3, .bool true])) w2) := ⟨a3, cap3, rfl, fun _ => hen.widen fun b hb => ⟨Nat.le_trans HB.out.size hb.1, hb.2⟩, Kp.fin HB.out hKp⟩
            clear hown1 hown2 hown3 hen hg1 hg2 HL hlr
            go_wp2_with fail
            go_ret2
            rw [Hput.out]
            exact hfin.out
end Go.Proofs.YtekmcoflagajkaaGreatDoor
namespace Go.Proofs.YtekmcoflagajkaaGreatDoor
open Go.RowKit

/-- What is seen of a variable; the last one counts. -/
def lookL (v : Int) (l : List (Int × Int)) : Int × Bool :=
  match l.reverse.find? (fun y => y.1 == v) with
  | some y => (y.2, true)
  | none => (0, false)
theorem lookL_snoc (v : Int) (l : List (Int × Int)) (y : Int × Int) : lookL v (l ++ [y]) = if y.1 = v then (y.2, true) else lookL v l := by
  unfold lookL
  rw [List.reverse_append]
  by_cases h : y.1 = v
  · simp [h]
  · have hb : (y.1 == v) = false := by simpa using h
    simp [hb, h]
theorem lookL_nil (v : Int) : lookL v [] = (0, false) := rfl
theorem lookL_take (v : Int) (l : List (Int × Int)) (k : Nat) (hk : k < l.length) : lookL v (l.take (k + 1)) = if l[k].1 = v then (l[k].2, true) else lookL v (l.take k) := by
  rw [List.take_succ_eq_append_getElem hk, lookL_snoc]

def LookPost (w : World) (r : Int × Bool) (e : Ending) (w' : World) : Prop := e = .returned (.tuple #[.int .i64 r.1, .bool r.2]) ∧ Below w.heap.size w w'

set_option maxHeartbeats 2000000 in
theorem refLook_any (a : Option Addr) (n cap : Nat) (l : List (Int × Int)) (v : Int) (w : World) (hl : EnIn w (In_ w) a n cap l) :
    Calls Tryz.prog 57 #[.slice a n cap, .int .i64 v] w (LookPost w (lookL v l)) := by
  have hn := hl.1
  subst hn
  have hcap := hl.2.le
  have hmx := hl.2.mx
  unfold maxLen at hmx
  go_enter Tryz.func57, Tryz.ntmps57
  go_wp2_with fail
  go_loop [6] (fun i => ∃ k : Nat, k ≤ l.length ∧ Hid (lookL v (l.take k) = lookL v l) ∧ ((k = 0 ∧ i = .int .i64 (-1)) ∨ ∃ j : Nat, k = j + 1 ∧ i = .int .i64 j)) (fun i => (intOf i + 1).toNat)
  case atStart =>
    refine ⟨l.length, Nat.le_refl _, by show _ = _; rw [List.take_length], ?_⟩
    rcases Nat.eq_zero_or_pos l.length with h0 | h0
    · left; refine ⟨h0, ?_⟩; rw [h0]; try rfl
    · right; refine ⟨l.length - 1, by omega, ?_⟩; congr 1; omega
  case round =>
    obtain ⟨k, hk, hrest, ⟨rfl, rfl⟩ | ⟨j, rfl, rfl⟩⟩ := hrel
    · go_wp2
      go_ret2
      have h := hrest.out
      rw [List.take_zero, lookL_nil] at h
      exact ⟨by rw [← h]; rfl, Below.refl _ _⟩
    · obtain ⟨b, off, rfl, hb, e0, e1⟩ := hl.at_ j (by omega)
      have ht := lookL_take v l j (by omega)
      have k0 : (0 : Int) ≤ j := by omega
      have k1 : (j : Int) < l.length := by omega
      by_cases hv : l[j].1 = v
      · have hv1 : (l[j].1 == v) = true := by simpa using hv
        rw [if_pos hv] at ht
        have h := hid (ht.symm.trans hrest.out)
        clear ht hrest hv
        go_wp2
        go_ret2
        exact ⟨by rw [← h.out]; rfl, Below.refl _ _⟩
      · have hv1 : (l[j].1 == v) = false := by simpa using hv
        rw [if_neg hv] at ht
        have h := hid (ht.symm.trans hrest.out)
        clear ht hrest hv
        go_wp2
        go_round
        case rel =>
          refine ⟨j, by omega, h, ?_⟩
          cases j with
          | zero => left; exact ⟨rfl, rfl⟩
          | succ j => right; refine ⟨j, rfl, ?_⟩; first | rfl | (congr 1; done) | (congr 1; omega)
        case measure => simp [intOf]

end Go.Proofs.YtekmcoflagajkaaGreatDoor
namespace Go.Proofs.YtekmcoflagajkaaGreatDoor
open Go.RowKit

/-- One store looked at by Take. -/
def takeStep (v : Int) (s : (Int × Int) × List (Int × Int) × Bool) (y : Int × Int) : (Int × Int) × List (Int × Int) × Bool :=
  if !s.2.2 && y.1 == v then (y, s.2.1, true) else (s.1, s.2.1 ++ [y], s.2.2)
/-- The oldest store to a variable, and the others. -/
def takB (v : Int) (l : List (Int × Int)) : (Int × Int) × List (Int × Int) × Bool := l.foldl (takeStep v) ((0, 0), [], false)
theorem takB_nil (v : Int) : takB v [] = ((0, 0), [], false) := rfl
theorem takB_snoc (v : Int) (l : List (Int × Int)) (y : Int × Int) : takB v (l ++ [y]) = takeStep v (takB v l) y := by
  unfold takB; rw [List.foldl_append]; rfl
theorem takB_take (v : Int) (l : List (Int × Int)) (k : Nat) (hk : k < l.length) : takB v (l.take (k + 1)) = takeStep v (takB v (l.take k)) l[k] := by
  rw [List.take_succ_eq_append_getElem hk, takB_snoc]
theorem takB_len (v : Int) (l : List (Int × Int)) : (takB v l).2.1.length ≤ l.length := by
  have key : ∀ (l : List (Int × Int)) (s : (Int × Int) × List (Int × Int) × Bool), (l.foldl (takeStep v) s).2.1.length ≤ s.2.1.length + l.length := by
    intro l
    induction l with
    | nil => intro s; simp
    | cons y l ih =>
      intro s
      have h := ih (takeStep v s y)
      have h2 : (takeStep v s y).2.1.length ≤ s.2.1.length + 1 := by
        unfold takeStep; split <;> simp
      simp only [List.foldl_cons, List.length_cons]
      omega
  have h := key l ((0, 0), [], false)
  unfold takB
  simpa using h

def TakePost (w : World) (r : (Int × Int) × List (Int × Int) × Bool) (e : Ending) (w' : World) : Prop :=
  ∃ a cap, e = .returned (.tuple #[.agg #[.int .i64 r.1.1, .int .i64 r.1.2], .slice a r.2.1.length cap, .bool r.2.2]) ∧ EnIn w' (fun b => w.heap.size ≤ b ∧ b < w'.heap.size) a r.2.1.length cap r.2.1 ∧ Below w.heap.size w w'

/-- What was there is kept; two boxes lie behind it; the second holds x. -/
abbrev KB (w : World) (x : Int × Int) (wr : World) : Prop :=
  Kp w wr ∧ w.heap.size + 2 ≤ wr.heap.size ∧ (wr.cell? ⟨w.heap.size, 0, none⟩ = some (.int .i64 0) ∧ wr.cell? ⟨w.heap.size, 1, none⟩ = some (.int .i64 0)) ∧
    (wr.cell? ⟨w.heap.size + 1, 0, none⟩ = some (.int .i64 x.1) ∧ wr.cell? ⟨w.heap.size + 1, 1, none⟩ = some (.int .i64 x.2)) ∧
    (wr.frozen? ⟨w.heap.size, 0, none⟩ = false ∧ wr.frozen? ⟨w.heap.size, 1, none⟩ = false) ∧ wr.frozen? ⟨w.heap.size + 1, 0, none⟩ = false ∧ wr.frozen? ⟨w.heap.size + 1, 1, none⟩ = false
theorem KB.of {w wr w' : World} {x : Int × Int} (h : KB w x wr) (hb : Below (w.heap.size + 2) wr w') : KB w x w' := by
  obtain ⟨h1, h2, ⟨h3, h4⟩, ⟨h5, h6⟩, ⟨f1, f2⟩, f3, f4⟩ := h
  refine ⟨.of (h1.1.trans (hb.mono (by omega))), Nat.le_trans h2 hb.size, ⟨?_, ?_⟩, ⟨?_, ?_⟩, ⟨?_, ?_⟩, ?_, ?_⟩
  · rw [hb.cell (p := ⟨_, _, none⟩) (by simp)]; exact h3
  · rw [hb.cell (p := ⟨_, _, none⟩) (by simp)]; exact h4
  · rw [hb.cell (p := ⟨_, _, none⟩) (by simp)]; exact h5
  · rw [hb.cell (p := ⟨_, _, none⟩) (by simp)]; exact h6
  · rw [hb.frozen (p := ⟨_, _, none⟩) (by simp)]; exact f1
  · rw [hb.frozen (p := ⟨_, _, none⟩) (by simp)]; exact f2
  · rw [hb.frozen (p := ⟨_, _, none⟩) (by simp)]; exact f3
  · rw [hb.frozen (p := ⟨_, _, none⟩) (by simp)]; exact f4
/-- The second box written. -/
theorem KB.put {w wr : World} {x : Int × Int} (h : KB w x wr) (y : Int × Int) : KB w y ((wr.setCell ⟨w.heap.size + 1, 0, none⟩ (.int .i64 y.1)).setCell ⟨w.heap.size + 1, 1, none⟩ (.int .i64 y.2)) := by
  obtain ⟨h1, h2, ⟨h3, h4⟩, ⟨h5, h6⟩, ⟨f1, f2⟩, f3, f4⟩ := h
  refine ⟨.of ((h1.1.setCell (by simp) _).setCell (by simp) _), by simpa using h2, ⟨?_, ?_⟩, ⟨?_, ?_⟩, ⟨?_, ?_⟩, ?_, ?_⟩ <;> go_simp
/-- The first box written. -/
theorem KB.fin {w wr : World} {x : Int × Int} (h : KB w x wr) (y : Int × Int) : Below w.heap.size w ((wr.setCell ⟨w.heap.size, 0, none⟩ (.int .i64 y.1)).setCell ⟨w.heap.size, 1, none⟩ (.int .i64 y.2)) :=
  (h.1.1.setCell (by simp) _).setCell (by simp) _
theorem KB.drew {w wr : World} {x : Int × Int} (h : KB w x wr) : KB w x wr.drew := h.of (Below.refl _ _).drew
theorem KB.alloc {w wr : World} {x : Int × Int} (h : KB w x wr) (o : Obj) : KB w x (wr.alloc o) := h.of ((Below.refl _ _).alloc h.2.1 o)
theorem KB.grown {w wr w1 : World} {x : Int × Int} {r : Option Nat} (h : KB w x wr) (hg : wr.grownBy w1 r) (hr : ∀ k, r = some k → w.heap.size + 2 ≤ k) : KB w x w1 :=
  h.of ((Below.refl _ _).grown hg h.2.1 hr)

set_option maxHeartbeats 2000000 in
theorem refTake_any (a : Option Addr) (n cap : Nat) (l : List (Int × Int)) (v : Int) (w : World) (hl : EnIn w (In_ w) a n cap l) (hlen : l.length ≤ 1000) :
    Calls Tryz.prog 39 #[.slice a n cap, .int .i64 v] w (TakePost w (takB v l)) := by
  have hn := hl.1
  subst hn
  have hcap := hl.2.le
  have hmx := hl.2.mx
  unfold maxLen at hmx
  go_enter Tryz.func39, Tryz.ntmps39
  go_wp2_with fail
  generalize hW : World.alloc (World.alloc w _) _ = W0
  have hB : KB w (0, 0) W0 := by
    subst hW
    refine ⟨.of (((Below.refl _ _).alloc (Nat.le_refl _) _).alloc (by simp) _), by simp, ⟨?_, ?_⟩, ⟨?_, ?_⟩, ⟨?_, ?_⟩, ?_, ?_⟩ <;> go_simp
  clear hW
  go_loopw [7, 9, 10] (fun o s i wr => ∃ k : Nat, k ≤ l.length ∧ i = .int .i64 k ∧ s = .bool (takB v (l.take k)).2.2 ∧ KB w (takB v (l.take k)).1 wr ∧ (∃ a1 n1 c1, o = .slice a1 n1 c1) ∧
    Hid (wr.ownsRow (w.heap.size + 2) 66 2 o (takB v (l.take k)).2.1.length ((takB v (l.take k)).2.1.flatMap enC))) (fun _ _ i _ => l.length - (intOf i).toNat)
  case atStart => exact ⟨0, Nat.zero_le _, rfl, rfl, hB, ⟨_, _, _, rfl⟩, World.ownsRow_nil _ _ _ _⟩
  case round =>
    obtain ⟨k, hk, rfl, rfl, hK, ⟨a1, n1, c1, rfl⟩, hown⟩ := hrel
    by_cases hlt : k < l.length
    · obtain ⟨bb, off, rfl, hbb, e0, e1⟩ := hl.at_ k hlt
      have hts := hid (takB_take v l k hlt)
      have hle : (takB v (l.take k)).2.1.length ≤ k := Nat.le_trans (takB_len _ _) (List.length_take_le _ _)
      have hle := hid hle
      have hbl := hbb.lt
      have k0 : (0 : Int) ≤ k := by omega
      have k1 : (k : Int) < l.length := by omega
      generalize hC : takB v (l.take k) = C at *
      clear hC
      obtain ⟨x, o, s⟩ := C
      simp only at hK hown hle
      have hown2o : ∀ (v2 : Value) (w2 : World), w2.ownsRow (w.heap.size + 2) 66 2 v2 (o.length + 1) (o.flatMap enC ++ [.int .i64 l[k].1, .int .i64 l[k].2]) → (wr.alloc (.cells #[.int .i64 l[k].1, .int .i64 l[k].2] 66)).grownBy w2 (Value.slice a1 n1 c1).ownBlock →
          Hid (w2.ownsRow (w.heap.size + 2) 66 2 v2 (o ++ [l[k]]).length ((o ++ [l[k]]).flatMap enC)) ∧ (∃ a2 n2 c2, v2 = .slice a2 n2 c2) ∧ KB w x w2 := by
        intro v2 w2 h1 h2
        have h3 : w2.ownsRow (w.heap.size + 2) 66 2 v2 (o ++ [l[k]]).length ((o ++ [l[k]]).flatMap enC) := by simpa [enC] using h1
        obtain ⟨a3, cap3, rfl, _⟩ := EnIn.of_own h3
        exact ⟨h3, ⟨_, _, _, rfl⟩, (hK.alloc _).grown h2 (fun k hk => (hown.out.lt k hk).1)⟩
      have hown2 := hid hown2o
      clear hown2o
      by_cases hs : s = false ∧ l[k].1 = v
      · obtain ⟨rfl, hv⟩ := hs
        have hv1 : (l[k].1 == v) = true := by simpa using hv
        have hts2 : Hid (takB v (l.take (k + 1)) = (l[k], o, true)) := by show _ = _; rw [hts.out]; simp [takeStep, hv1]
        have hb1 : w.heap.size + 1 < wr.heap.size := by have := hK.2.1; omega
        clear hts hv
        go_wp2_with fail
        go_roundw
        case rel => exact ⟨k + 1, by omega, by simp, by rw [hts2.out], by rw [hts2.out]; exact hK.put l[k], ⟨_, _, _, rfl⟩, by rw [hts2.out]; exact ownsRow_setCell_below (ownsRow_setCell_below hown.out (by simp) _) (by simp) _⟩
        case measure => simp [intOf]; omega
      · have hts2 : Hid (takB v (l.take (k + 1)) = (x, o ++ [l[k]], s)) := by
          show _ = _; rw [hts.out]
          cases s with
          | true => simp [takeStep]
          | false =>
            have hv1 : (l[k].1 == v) = false := by rw [beq_eq_false_iff_ne]; intro h; exact hs ⟨rfl, h⟩
            simp [takeStep, hv1]
        clear hts
        have hs2 : s = true ∨ (s = false ∧ (l[k].1 == v) = false) := by
          cases s with
          | true => exact .inl rfl
          | false => right; refine ⟨rfl, ?_⟩; rw [beq_eq_false_iff_ne]; intro h; exact hs ⟨rfl, h⟩
        clear hs
        have hl1 : o.length ≤ 1000 := by have := hle.out; omega
        have hz : w.heap.size + 2 ≤ wr.heap.size := hK.2.1
        have Hlen := hid hl1
        clear hl1
        rcases hs2 with rfl | ⟨rfl, hv1⟩
        all_goals
          go_wp2_with (first
            | (at_builtin
               refine list_en (base := w.heap.size + 2) (.tmp 32) (.tmp 37) (.slice a1 n1 c1) o.length (o.flatMap enC) 1 [.int .i64 l[k].1, .int .i64 l[k].2] ?_ ?_ ?_ ?_ ?_ ?_ ?_ ?_ ?_
               (focus rfl); (focus rfl); (focus rfl); (focus exact hown.out.alloc _); (focus exact ⟨_, _, rfl, src_new rfl⟩); (focus exact one_cells); (focus (have := Hlen.out; omega)); (focus (simp; omega))
               intro v2 w2 hown3 hg3 hat3)
            | fail)
          obtain ⟨H1, ⟨a2, n2, c2, rfl⟩, H3⟩ := hown2.out v2 w2 hown3 hg3
          clear hown3 hg3 hat3 hown2 hown Hlen hle
          go_wp2_with fail
          go_roundw
          case rel => exact ⟨k + 1, by omega, by simp, by rw [hts2.out], by rw [hts2.out]; exact H3, ⟨_, _, _, rfl⟩, by rw [hts2.out]; exact H1⟩
          case measure => simp [intOf]; omega
    · obtain rfl : k = l.length := by omega
      rw [List.take_length] at hK hown
      simp only [List.take_length]
      obtain ⟨a3, cap3, ha3, hen⟩ := EnIn.of_own hown.out
      cases ha3
      have hz : w.heap.size + 2 ≤ wr.heap.size := hK.2.1
      generalize hC : takB v l = C at *
      obtain ⟨x, o, s⟩ := C
      simp only at hK hown hen
      clear hC
      have hown3 := ownsRow_setCell_below (ownsRow_setCell_below hown.out (a := ⟨w.heap.size, 0, none⟩) (by simp) (.int .i64 x.1)) (a := ⟨w.heap.size, 1, none⟩) (by simp) (.int .i64 x.2)
      obtain ⟨a3, cap3, ha3, hen3⟩ := EnIn.of_own hown3
      cases ha3
      have hfin : Hid (TakePost w (x, o, s) (.returned (.tuple #[.agg #[.int .i64 x.1, .int .i64 x.2], .slice a1 o.length c1, .bool s])) ((wr.setCell ⟨w.heap.size, 0, none⟩ (.int .i64 x.1)).setCell ⟨w.heap.size, 1, none⟩ (.int .i64 x.2))) :=
        ⟨a1, c1, rfl, hen3.widen fun b hb => ⟨by have := hb.1; omega, hb.2⟩, hK.fin x⟩
      clear hen3 hown3 hen hown
      go_wp2_with fail
      refine bodyPost_ret (v := .tuple #[.agg #[.int .i64 x.1, .int .i64 x.2], .slice a1 o.length c1, .bool s]) ?_ rfl hfin.out
      have hK1 := hK.2.1
      have r0 : ((wr.setCell ⟨w.heap.size, 0, none⟩ (.int .i64 x.1)).setCell ⟨w.heap.size, 1, none⟩ (.int .i64 x.2)).cell? ⟨w.heap.size, 0, none⟩ = some (.int .i64 x.1) := by go_simp
      have r1 : ((wr.setCell ⟨w.heap.size, 0, none⟩ (.int .i64 x.1)).setCell ⟨w.heap.size, 1, none⟩ (.int .i64 x.2)).cell? ⟨w.heap.size, 1, none⟩ = some (.int .i64 x.2) := by go_simp
      generalize World.setCell (World.setCell wr _ _) _ _ = W2 at r0 r1 ⊢
      simp [results, Tryz.results39, go_sem, r0, r1]
end Go.Proofs.YtekmcoflagajkaaGreatDoor
namespace Go.Proofs.YtekmcoflagajkaaGreatDoor
open Go.RowKit

theorem int_info : (Tryz.prog.info? 3).map (fun i => (i.zero, i.size, i.bytes)) = some (some (.int .i64 0), 1, 8) := by kernel_rfl
theorem list_int {ops : Array Oper} {rest : List Oper} {o : Oper} {a : Act} {w : World} {base : Nat} {Q : Exit → Act → World → Prop} (s x : Operand) (v : Value) (n : Nat) (xs : List Value) (m : Nat) (news : List Value)
    (hgd : o.guard = none) (ho : o.op = .call { callee := .builtin .append, args := #[s, x], argTypes := #[27, 27] })
    (hsv : a.eval s = v) (hown : w.ownsRow base 3 1 v n xs) (hsrc : ∃ A c, a.eval x = .slice A m c ∧ SrcAt w 1 A m news) (h1 : ∀ u ∈ news, u.oneCell' = true) (hb : n + m ≤ 1000000) (hbase : base ≤ w.heap.size)
    (h : ∀ v' w', w'.ownsRow base 3 1 v' (n + m) (xs ++ news) → w.grownBy w' v.ownBlock → (v'.ownBlock = v.ownBlock ∨ v'.ownBlock = some w.heap.size) → wpList Tryz.prog ops Q rest (a.put o.dst v') w') :
    wpList Tryz.prog ops Q (o :: rest) a w := by
  obtain ⟨i0, hi, hz0, hz1, hz2⟩ := info_parts int_info
  exact list_app hgd s x ho Tryz.underlying27 hi hz0 hz1 hz2 rfl (by decide) v n xs hsv hown m news hsrc h1 (by simp only [maxLen]; omega) (by omega) hbase h
theorem one_int {p : Int} : ∀ u ∈ [Value.int .i64 p], u.oneCell' = true := by
  intro u hu
  simp at hu
  subst hu
  rfl
def HeadsPost (w : World) (r : List Int) (e : Ending) (w' : World) : Prop :=
  ∃ a cap, e = .returned (.slice a r.length cap) ∧ IntIn w' (In_ w') a r.length cap r ∧ Below w.heap.size w w'
theorem IntIn.of_ownT {w : World} {base : Nat} {v : Value} {l : List Int} (h : w.ownsRow base 3 1 v l.length (l.map (Value.int .i64))) : ∃ a cap, v = .slice a l.length cap ∧ IntIn w (fun b => base ≤ b ∧ b < w.heap.size) a l.length cap l ∧ True := by
  obtain ⟨a, cap, e, h⟩ := IntIn.of_own h
  exact ⟨a, cap, e, h, trivial⟩
end Go.Proofs.YtekmcoflagajkaaGreatDoor
namespace Go.Proofs.YtekmcoflagajkaaGreatDoor
open Go.RowKit

/-- One number passed while another is put into its place. -/
def insStep (v : Int) (s : List Int × Bool) (y : Int) : List Int × Bool :=
  if !s.2 && decide (v < y) then (s.1 ++ [v] ++ [y], true) else (s.1 ++ [y], s.2)
def insH (v : Int) (o : List Int) : List Int :=
  if (o.foldl (insStep v) ([], false)).2 then (o.foldl (insStep v) ([], false)).1 else (o.foldl (insStep v) ([], false)).1 ++ [v]
/-- One store passed by Heads. -/
def hdStep (s : List Int × List Int) (y : Int × Int) : List Int × List Int := (s.1 ++ [y.1], if y.1 ∈ s.1 then s.2 else insH y.1 s.2)
def hdL (l : List (Int × Int)) : List Int := (l.foldl hdStep ([], [])).2
theorem hd_fst (l : List (Int × Int)) : ∀ s, (l.foldl hdStep s).1 = s.1 ++ l.map (·.1) := by
  induction l with
  | nil => intro s; simp
  | cons y l ih => intro s; rw [List.foldl_cons, ih]; simp [hdStep]
theorem hdL_snoc (l : List (Int × Int)) (y : Int × Int) : hdL (l ++ [y]) = if y.1 ∈ l.map (·.1) then hdL l else insH y.1 (hdL l) := by
  unfold hdL
  rw [List.foldl_append]
  simp only [List.foldl_cons, List.foldl_nil, hdStep, hd_fst, List.nil_append]
def insP (s : List Int × Bool) : Nat := s.1.length + if s.2 then 0 else 1
theorem insP_step (v : Int) (s : List Int × Bool) (y : Int) : insP (insStep v s y) = insP s + 1 := by
  obtain ⟨x, d⟩ := s
  unfold insStep insP
  cases d
  · by_cases hv : v < y
    · simp [hv]
    · simp [hv]
  · simp
theorem insP_fold (v : Int) (o : List Int) : ∀ s : List Int × Bool, insP (o.foldl (insStep v) s) = insP s + o.length := by
  induction o with
  | nil => intro s; rfl
  | cons y o ih => intro s; rw [List.foldl_cons, ih, insP_step, List.length_cons]; omega
theorem insH_len (v : Int) (o : List Int) : (insH v o).length = o.length + 1 := by
  have h := insP_fold v o ([], false)
  unfold insP at h
  unfold insH
  cases hd : (o.foldl (insStep v) ([], false)).2 <;> simp [hd] at h ⊢ <;> omega
theorem hdL_len (l : List (Int × Int)) : (hdL l).length ≤ l.length := by
  have key : ∀ l' : List (Int × Int), (hdL l'.reverse).length ≤ l'.reverse.length := by
    intro l'
    induction l' with
    | nil => simp [hdL]
    | cons y l' ih =>
      rw [List.reverse_cons, hdL_snoc]
      split
      · simp only [List.length_append]; omega
      · have := insH_len y.1 (hdL l'.reverse)
        simp only [List.length_append, List.length_cons, List.length_nil]; omega
  have := key l.reverse
  simpa using this
/-- Heads by the document. -/
def refHeadsL (m : Int) (l : List (Int × Int)) : List Int :=
  if m = 2 then hdL l else if m = 1 then (l.map (·.1)).take 1 else []

end Go.Proofs.YtekmcoflagajkaaGreatDoor
