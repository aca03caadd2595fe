/- Tokens in memory: rows of tokens; append of one token. -/
import Derived.Test.YtphlbbnmligadaaGreatDoorBunM
import Derived.Test.YtphlbbnmligadaaGreatDoorRows
import Derived.Laws.OwnMore
import Derived.Lib.AtoiAll
import Derived.Lib.ItoaNum
import Derived.Shelf.LaysM
import Derived.Shelf.LaysC
import Derived.Shelf.Small.Strs
import Derived.Shelf.Strings.SlTrimAscii
import Derived.Shelf.Strings.Prefix
import Derived.Shelf.Strconv.Itoa3
import Derived.Shelf.Strconv.AtoiAll
import Derived.Shelf.Strconv.ErrVarAll
import Derived.Test.YtphlbbnmligadaaGreatDoorBunN
namespace Go.Proofs.YtphlbbnmligadaaGreatDoor
namespace Lx
open Go.RowKit

/-- Cell j of element i of a row whose elements have sz cells each. -/
theorem flat_at {α : Type} (f : α → List Value) (sz : Nat) (hf : ∀ x, (f x).length = sz) : ∀ (l : List α) (i j : Nat) (hi : i < l.length), j < sz → (l.flatMap f)[i * sz + j]? = (f l[i])[j]?
  | [], i, j, hi, _ => by simp at hi
  | x :: l, 0, j, _, hj => by
    simp only [List.flatMap_cons, Nat.zero_mul, Nat.zero_add, List.getElem_cons_zero]
    rw [List.getElem?_append_left (by rw [hf]; exact hj)]
  | x :: l, i + 1, j, hi, hj => by
    have ih := flat_at f sz hf l i j (by simpa using hi) hj
    simp only [List.flatMap_cons, List.getElem_cons_succ]
    rw [List.getElem?_append_right (by rw [hf, Nat.succ_mul]; omega), hf, ← ih]
    congr 1
    rw [Nat.succ_mul]; omega
theorem flat_size {α : Type} (f : α → List Value) (sz : Nat) (hf : ∀ x, (f x).length = sz) (l : List α) : (l.flatMap f).length = l.length * sz := by
  induction l with
  | nil => simp
  | cons x l ih => simp only [List.flatMap_cons, List.length_append, hf, ih, List.length_cons, Nat.succ_mul]; omega
/-- Element i's cells. -/
def celAt {α : Type} (f : α → List Value) (l : List α) (i : Nat) : List Value := match l[i]? with | some x => f x | none => []
/-- A row of the call's own, element by element. -/
theorem Sl.of_own {α : Type} (f : α → List Value) (sz : Nat) (hf : ∀ x, (f x).length = sz) {w : World} {base : Nat} {T : TypeId} {v : Value} {l : List α} (h : w.ownsRow base T sz v l.length (l.flatMap f)) :
    ∃ a cap, v = .slice a l.length cap ∧ Sl w (fun b => base ≤ b ∧ b < w.heap.size) sz a l.length cap (celAt f l) := by
  have h' := h
  obtain ⟨_, h⟩ := h
  rcases h with ⟨rfl, h0⟩ | ⟨g, cap, cur, rfl, hb, hg, hle, hcm, hsz, htk⟩
  · exact ⟨none, 0, by rw [h0], by omega, Nat.zero_le _, fun hp => absurd hp (by omega)⟩
  · refine ⟨some ⟨g, 0, none⟩, cap, rfl, hle, hcm, fun _ => ⟨g, 0, rfl, ⟨hb, (Array.getElem?_eq_some_iff.1 hg).1⟩, fun i hi j hj => ?_⟩⟩
    have hfl := flat_at f sz hf l i j hi hj
    simp only [celAt, List.getElem?_eq_getElem hi]
    have hlt : j < (f l[i]).length := by rw [hf]; exact hj
    rw [List.getElem?_eq_getElem hlt] at hfl ⊢
    have := h'.cells (g := g) rfl _ _ hfl
    have hadd : (⟨g, 0, none⟩ : Addr).add (i * sz + j) = ⟨g, 0 + (i * sz + j), none⟩ := by
      unfold Addr.add
      split
      · rename_i h; rw [h]
      · simp
    rwa [hadd] at this

theorem tok_info : (Tryz.prog.info? 76).map (fun i => (i.zero, i.size, i.bytes)) = some (some (.agg #[.int .i64 0, .string ⟨#[]⟩, .int .i64 0, .int .i64 0]), 4, 40) := by kernel_rfl

/-- A list of bytes as a text. -/
abbrev strV (l : List UInt8) : Value := .string ⟨l.toArray⟩
/-- A token's cells. -/
def tkC (t : Tok) : List Value := [.int .i64 t.kind, strV t.text, .int .i64 t.n, .int .i64 t.place]
/-- A token's value. -/
abbrev tkV (t : Tok) : Value := .agg #[.int .i64 t.kind, strV t.text, .int .i64 t.n, .int .i64 t.place]
theorem tkC_len (t : Tok) : (tkC t).length = 4 := rfl
theorem tkC_one (l : List Tok) : ∀ u ∈ l.flatMap tkC, u.oneCell' = true := by
  intro u hu
  obtain ⟨x, _, hx⟩ := List.mem_flatMap.1 hu
  simp [tkC] at hx
  rcases hx with rfl | rfl | rfl | rfl <;> rfl
theorem tkC_one1 (t : Tok) : ∀ u ∈ tkC t, u.oneCell' = true := fun u hu => tkC_one [t] u (by simpa using hu)

/-- append of one token. -/
theorem list_tk {ops : Array Oper} {rest : List Oper} {o : Oper} {a : Act} {w : World} {base : Nat} {Q : Exit → Act → World → Prop} (s x : Operand) (v : Value) (n : Nat) (xs : List Value) (m : Nat) (news : List Value)
    (hgd : o.guard = none) (ho : o.op = .call { callee := .builtin .append, args := #[s, x], argTypes := #[34, 34] })
    (hsv : a.eval s = v) (hown : w.ownsRow base 76 4 v n xs) (hsrc : ∃ A c, a.eval x = .slice A m c ∧ SrcAt w 4 A m news) (h1 : ∀ u ∈ news, u.oneCell' = true) (hb : n + m ≤ 100000) (hbase : base ≤ w.heap.size)
    (h : ∀ v' w', w'.ownsRow base 76 4 v' (n + m) (xs ++ news) → w.grownBy w' v.ownBlock → (v'.ownBlock = v.ownBlock ∨ v'.ownBlock = some w.heap.size) → wpList Tryz.prog ops Q rest (a.put o.dst v') w') :
    wpList Tryz.prog ops Q (o :: rest) a w := by
  obtain ⟨i0, hi, hz0, hz1, hz2⟩ := info_parts tok_info
  exact list_app hgd s x ho Tryz.underlying34 hi hz0 hz1 hz2 rfl (by decide) v n xs hsv hown m news hsrc h1 (by simp only [maxLen]; omega) (by omega) hbase h

/-- Tokens that the call has collected. -/
def TkO (w : World) (B : Nat) (v : Value) (L : List Tok) : Prop := w.ownsRow B 76 4 v L.length (L.flatMap tkC)
/-- Tokens lie where a slice leads. -/
def TkIn (w : World) (S : Nat → Prop) (a : Option Addr) (n cap : Nat) (l : List Tok) : Prop :=
  n = l.length ∧ Sl w S 4 a l.length cap (celAt tkC l)
namespace TkIn
variable {w w' : World} {S S' : Nat → Prop} {a : Option Addr} {n cap : Nat} {l : List Tok}
theorem keep (h : TkIn w S a n cap l) (hk : ∀ b o, S b → w'.cell? ⟨b, o, none⟩ = w.cell? ⟨b, o, none⟩) : TkIn w' S a n cap l := ⟨h.1, h.2.keep hk⟩
theorem widen (h : TkIn w S a n cap l) (hS : ∀ b, S b → S' b) : TkIn w S' a n cap l := ⟨h.1, h.2.widen hS⟩
theorem at_ (h : TkIn w S a n cap l) (i : Nat) (hi : i < l.length) : ∃ b off, a = some ⟨b, off, none⟩ ∧ S b ∧ w.cell? ⟨b, off + i * 4, none⟩ = some (.int .i64 l[i].kind) ∧ w.cell? ⟨b, off + i * 4 + 1, none⟩ = some (strV l[i].text)
    ∧ w.cell? ⟨b, off + i * 4 + 2, none⟩ = some (.int .i64 l[i].n) ∧ w.cell? ⟨b, off + i * 4 + 3, none⟩ = some (.int .i64 l[i].place) := by
  obtain ⟨b, off, rfl, hb, hc⟩ := h.2.at_ (by omega)
  refine ⟨b, off, rfl, hb, ?_, ?_, ?_, ?_⟩
  · have := hc i hi 0 (by omega)
    simpa [celAt, tkC, hi] using this
  · have := hc i hi 1 (by omega)
    simpa [celAt, tkC, hi, Nat.add_assoc] using this
  · have := hc i hi 2 (by omega)
    simpa [celAt, tkC, hi, Nat.add_assoc] using this
  · have := hc i hi 3 (by omega)
    simpa [celAt, tkC, hi, Nat.add_assoc] using this
theorem nil_ : TkIn w S none 0 0 [] := ⟨rfl, Sl.nil⟩
end TkIn
theorem TkO.in_ {w : World} {B : Nat} {v : Value} {L : List Tok} (h : TkO w B v L) : ∃ a cap, v = .slice a L.length cap ∧ TkIn w (fun b => B ≤ b ∧ b < w.heap.size) a L.length cap L := by
  obtain ⟨a, cap, rfl, hs⟩ := Sl.of_own tkC 4 tkC_len h
  exact ⟨a, cap, rfl, rfl, hs⟩
theorem Kp.tk {W0 w : World} (h : Kp W0 w) {a : Option Addr} {n cap : Nat} {l : List Tok} (hx : TkIn W0 (In_ W0) a n cap l) : TkIn w (In_ w) a n cap l := (hx.keep fun b o hb => h.2 b o hb).widen (In_.mono h.1.size)
end Lx
end Go.Proofs.YtphlbbnmligadaaGreatDoor
namespace Go.Proofs.YtphlbbnmligadaaGreatDoor
namespace Lx

@[elab_as_elim]
theorem snoc_ind {P : List UInt8 → Prop} (nil : P []) (snoc : ∀ l c, P l → P (l ++ [c])) (l : List UInt8) : P l := by
  have key : ∀ l : List UInt8, P l.reverse := by
    intro l
    induction l with
    | nil => exact nil
    | cons c l ih => rw [List.reverse_cons]; exact snoc _ _ ih
  have := key l.reverse
  rwa [List.reverse_reverse] at this

def numN (l : List UInt8) : Nat := l.foldl (fun a c => 10 * a + (c.toNat - 48)) 0

theorem numN_snoc (l : List UInt8) (c : UInt8) : numN (l ++ [c]) = 10 * numN l + (c.toNat - 48) := by simp [numN]
theorem numL_snoc (l : List UInt8) (c : UInt8) : numLx (l ++ [c]) = 10 * numLx l + ((c.toNat : Int) - 48) := by simp [numLx]

theorem digit_bounds {c : UInt8} (h : digitB c = true) : 48 ≤ c.toNat ∧ c.toNat ≤ 57 := by simpa [digitB] using h

theorem numL_numN (l : List UInt8) (h : ∀ c ∈ l, digitB c = true) : numLx l = (numN l : Int) := by
  have key : ∀ (l : List UInt8) (a : Nat), (∀ c ∈ l, digitB c = true) → l.foldl (fun (a : Int) (c : UInt8) => 10 * a + ((c.toNat : Int) - 48)) (a : Int) = ((l.foldl (fun (a : Nat) (c : UInt8) => 10 * a + (c.toNat - 48)) a : Nat) : Int) := by
    intro l
    induction l with
    | nil => intro a _; rfl
    | cons c l ih =>
      intro a h
      simp only [List.foldl_cons]
      have hc := digit_bounds (h c (by simp))
      have := ih (10 * a + (c.toNat - 48)) (fun d hd => h d (by simp [hd]))
      rw [← this]
      congr 1
      omega
  exact key l 0 h

theorem numN_lt : ∀ (l : List UInt8), (∀ c ∈ l, digitB c = true) → numN l < 10 ^ l.length := by
  intro l
  induction l using snoc_ind with
  | nil => intro _; simp [numN]
  | snoc l c ih =>
    intro h
    have := ih (fun d hd => h d (by simp [hd]))
    have hc := digit_bounds (h c (by simp))
    rw [numN_snoc, List.length_append, List.length_singleton, Nat.pow_succ]
    omega

theorem numN_pos : ∀ (l : List UInt8), (∀ c ∈ l, digitB c = true) → ∀ c, l.head? = some c → c ≠ 48 → 1 ≤ numN l := by
  intro l
  induction l using snoc_ind with
  | nil => intro _ c hc; simp at hc
  | snoc l d ih =>
    intro h c hc h48
    have hd := digit_bounds (h d (by simp))
    rw [numN_snoc]
    cases l with
    | nil =>
      have : c = d := by simpa using hc.symm
      subst this
      have : c.toNat ≠ 48 := fun e => h48 (UInt8.toNat_inj.1 e)
      omega
    | cons e l =>
      have := ih (fun d hd => h d (by rw [List.mem_append]; exact .inl hd)) c (by simpa using hc) h48
      omega

theorem ofNat_digit {c : UInt8} (h : digitB c = true) : UInt8.ofNat (48 + (c.toNat - 48)) = c := by
  have := digit_bounds h
  rw [show 48 + (c.toNat - 48) = c.toNat from by omega]
  exact UInt8.ofNat_toNat

/-- A numeral without noughts ahead is what its value is written as. -/
theorem dec_back : ∀ (l : List UInt8), (∀ c ∈ l, digitB c = true) → l ≠ [] → (l.length = 1 ∨ ∀ c, l.head? = some c → c ≠ 48) → Lib.decDigits (numN l) = l := by
  intro l
  induction l using snoc_ind with
  | nil => intro _ h; exact absurd rfl h
  | snoc l c ih =>
    intro h _ hh
    have hc := h c (by simp)
    have hb := digit_bounds hc
    rw [numN_snoc]
    cases l with
    | nil =>
      rw [show 10 * numN [] + (c.toNat - 48) = c.toNat - 48 from by simp [numN]]
      rw [Lib.decDigits_one (by omega), ofNat_digit hc]
      rfl
    | cons d l =>
      have hh' : ∀ c, (d :: l).head? = some c → c ≠ 48 := by
        rcases hh with h1 | h1
        · simp at h1
        · intro e he; exact h1 e (by simpa using he)
      have hp := numN_pos (d :: l) (fun e he => h e (by rw [List.mem_append]; exact .inl he)) d rfl (hh' d rfl)
      have ihl := ih (fun e he => h e (by rw [List.mem_append]; exact .inl he)) (by simp) (.inr hh')
      rw [Lib.decDigits, dif_neg (by omega)]
      have e1 : (10 * numN (d :: l) + (c.toNat - 48)) / 10 = numN (d :: l) := by omega
      have e2 : (10 * numN (d :: l) + (c.toNat - 48)) % 10 = c.toNat - 48 := by omega
      rw [e1, e2, ihl, ofNat_digit hc]

theorem dec_head : ∀ (u : Nat), 1 ≤ u → ∀ c, (Lib.decDigits u).head? = some c → c ≠ 48 := by
  intro u
  induction u using Nat.strongRecOn with
  | ind u ih =>
    intro hu c hc
    rw [Lib.decDigits] at hc
    by_cases h : u < 10
    · rw [dif_pos h] at hc
      have hc' : UInt8.ofNat (48 + u) = c := by simpa using hc
      subst hc'
      intro e
      have := congrArg UInt8.toNat e
      simp at this
      omega
    · rw [dif_neg h] at hc
      have hne : Lib.decDigits (u / 10) ≠ [] := by
        intro e
        have := Lib.decDigits_length (u / 10)
        rw [e] at this
        have := Lib.nDigits_pos (u / 10)
        simp at *
        omega
      obtain ⟨d, r, hdr⟩ : ∃ d r, Lib.decDigits (u / 10) = d :: r := by
        cases hx : Lib.decDigits (u / 10) with
        | nil => exact absurd hx hne
        | cons d r => exact ⟨d, r, rfl⟩
      have hi := ih (u / 10) (by omega) (by omega) c
      rw [hdr] at hi hc
      exact hi (by simpa using hc)

/-- A numeral with noughts ahead is not what its value is written as. -/
theorem dec_not (l : List UInt8) (h1 : 1 < l.length) (h0 : l.head? = some 48) : Lib.decDigits (numN l) ≠ l := by
  intro e
  by_cases hu : 1 ≤ numN l
  · exact dec_head _ hu 48 (by rw [e]; exact h0) rfl
  · have : numN l = 0 := by omega
    rw [this, Lib.decDigits_one (by omega)] at e
    rw [← e] at h1
    simp at h1

theorem parse_digits : ∀ (l : List UInt8) (acc : Nat), (∀ c ∈ l, digitB c = true) → (∃ u, Lib.parseUint10 acc l = .ok u) ∨ Lib.parseUint10 acc l = .range
  | [], acc, _ => .inl ⟨acc, by simp [Lib.parseUint10]⟩
  | c :: l, acc, h => by
    have hc := digit_bounds (h c (by simp))
    simp only [Lib.parseUint10, if_pos hc]
    split
    · exact .inr rfl
    · split
      · exact .inr rfl
      · exact parse_digits l _ (fun d hd => h d (by simp [hd]))

theorem parse_small : ∀ (l : List UInt8) (acc : Nat), (∀ c ∈ l, digitB c = true) → acc * 10 ^ l.length + 10 ^ l.length ≤ 1000000 → Lib.parseUint10 acc l = .ok (l.foldl (fun a c => 10 * a + (c.toNat - 48)) acc)
  | [], acc, _, _ => by simp [Lib.parseUint10]
  | c :: l, acc, h, hb => by
    have hc := digit_bounds (h c (by simp))
    have hp : 1 ≤ 10 ^ l.length := Nat.pos_of_ne_zero (by simp)
    simp only [List.length_cons, Nat.pow_succ] at hb
    have h10 : acc * 10 < 1000000 := by
      have : acc * 10 * 1 ≤ acc * 10 * 10 ^ l.length := Nat.mul_le_mul_left _ hp
      have e : acc * (10 ^ l.length * 10) = acc * 10 * 10 ^ l.length := by ac_rfl
      omega
    simp only [Lib.parseUint10, if_pos hc]
    rw [if_neg (by omega), if_neg (by omega)]
    rw [parse_small l _ (fun d hd => h d (by simp [hd])) ?_]
    · simp only [List.foldl_cons]
      rw [Nat.mul_comm acc 10]
    · have e : (acc * 10 + (c.toNat - 48)) * 10 ^ l.length + 10 ^ l.length = acc * (10 ^ l.length * 10) + (c.toNat - 48) * 10 ^ l.length + 10 ^ l.length := by
        rw [Nat.add_mul]; ac_rfl
      rw [e]
      have : (c.toNat - 48) * 10 ^ l.length ≤ 9 * 10 ^ l.length := Nat.mul_le_mul_right _ (by omega)
      omega

theorem digit_no_sign {c : UInt8} (h : digitB c = true) : ¬ (c.toNat = 43 ∨ c.toNat = 45) := by have := digit_bounds h; omega

theorem atoi_digits (l : List UInt8) (h : ∀ c ∈ l, digitB c = true) (hne : l ≠ []) : (∃ v, Lib.atoiAll l = .ok v) ∨ Lib.atoiAll l = .range := by
  cases l with
  | nil => exact absurd rfl hne
  | cons c r =>
    have hc := digit_no_sign (h c (by simp))
    have hp := parse_digits (c :: r) 0 h
    simp only [Lib.atoiAll, if_neg hc]
    have e : Lib.parseMag (c :: r) = Lib.parseUint10 0 (c :: r) := by simp [Lib.parseMag]
    rw [e]
    rcases hp with ⟨u, hu⟩ | hu
    · rw [hu]
      simp only
      split
      · exact .inr rfl
      · split
        · exact .inr rfl
        · exact .inl ⟨_, rfl⟩
    · rw [hu]
      exact .inr rfl

theorem atoi_small (l : List UInt8) (h : ∀ c ∈ l, digitB c = true) (hne : l ≠ []) (h6 : l.length ≤ 6) : Lib.atoiAll l = .ok (numLx l) := by
  have hpow : 10 ^ l.length ≤ 10 ^ 6 := Nat.pow_le_pow_right (by omega) h6
  have hlt := numN_lt l h
  rw [numL_numN l h]
  cases l with
  | nil => exact absurd rfl hne
  | cons c r =>
    have hc := digit_no_sign (h c (by simp))
    have hp := parse_small (c :: r) 0 h (by omega)
    simp only [Lib.atoiAll, if_neg hc]
    have e : Lib.parseMag (c :: r) = Lib.parseUint10 0 (c :: r) := by simp [Lib.parseMag]
    rw [e, hp]
    have hn : (c :: r).foldl (fun a c => 10 * a + (c.toNat - 48)) 0 = numN (c :: r) := rfl
    rw [hn]
    have hm : ¬ c.toNat = 45 := fun e => hc (.inr e)
    simp only [hm]
    simp
    omega

theorem run_digits (l : List UInt8) : ∀ c ∈ l.take (runP digitB l), digitB c = true := by
  induction l with
  | nil => intro c hc; simp [runP] at hc
  | cons d l ih =>
    intro c hc
    by_cases h : digitB d = true
    · rw [runP_cons_pos h, List.take_succ_cons] at hc
      rcases List.mem_cons.1 hc with rfl | hc
      · exact h
      · exact ih c hc
    · rw [runP_cons_neg (by simpa using h)] at hc
      simp at hc
end Lx
end Go.Proofs.YtphlbbnmligadaaGreatDoor
namespace Go.Proofs.YtphlbbnmligadaaGreatDoor
namespace Lx
open Go.Shelf
def lays161_ren : Go.Shelf.Ren := ⟨fun | 161 => 55 | 231 => 93 | 227 => 94 | 233 => 95 | 235 => 96 | 228 => 126 | 197 => 127 | 151 => 128 | 260 => 151 | 152 => 152 | 137 => 100 | 119 => 164 | 224 => 165 | 225 => 166 | 217 => 131 | 266 => 155 | n => n, fun | 9 => 9 | 4 => 4 | 3 => 3 | 5 => 5 | 117 => 133 | 116 => 132 | 0 => 0 | 124 => 136 | 105 => 161 | 21 => 21 | 119 => 188 | 46 => 147 | 139 => 191 | 138 => 190 | n => n, fun | 3 => 2 | 4 => 3 | n => n⟩
theorem lays161 : Go.Proofs.Lays.n161 Tryz.prog lays161_ren := {
  mixed := by kernel_rfl
  f119 := Tryz.func164.trans (congrArg some (by kernel_rfl))
  f137 := Tryz.func100.trans (congrArg some (by kernel_rfl))
  f151 := Tryz.func128.trans (congrArg some (by kernel_rfl))
  f152 := Tryz.func152.trans (congrArg some (by kernel_rfl))
  f161 := Tryz.func55.trans (congrArg some (by kernel_rfl))
  f197 := Tryz.func127.trans (congrArg some (by kernel_rfl))
  f217 := Tryz.func131.trans (congrArg some (by kernel_rfl))
  f224 := Tryz.func165.trans (congrArg some (by kernel_rfl))
  f225 := Tryz.func166.trans (congrArg some (by kernel_rfl))
  f227 := Tryz.func94.trans (congrArg some (by kernel_rfl))
  f228 := Tryz.func126.trans (congrArg some (by kernel_rfl))
  f231 := Tryz.func93.trans (congrArg some (by kernel_rfl))
  f233 := Tryz.func95.trans (congrArg some (by kernel_rfl))
  f235 := Tryz.func96.trans (congrArg some (by kernel_rfl))
  f260 := Tryz.func151.trans (congrArg some (by kernel_rfl))
  f266 := Tryz.func155.trans (congrArg some (by kernel_rfl))
  t0 := Tryz.underlying0
  a0 := Tryz.isAgg0
  z0 := Tryz.sizeOf0
  v0 := Tryz.zeroValue0
  t3 := Tryz.underlying3
  a3 := Tryz.isAgg3
  z3 := Tryz.sizeOf3
  v3 := Tryz.zeroValue3
  t4 := Tryz.underlying4
  a4 := Tryz.isAgg4
  z4 := Tryz.sizeOf4
  v4 := Tryz.zeroValue4
  t5 := Tryz.underlying5
  a5 := Tryz.isAgg5
  z5 := Tryz.sizeOf5
  v5 := Tryz.zeroValue5
  t9 := Tryz.underlying9
  a9 := Tryz.isAgg9
  z9 := Tryz.sizeOf9
  v9 := Tryz.zeroValue9
  t21 := Tryz.underlying21
  a21 := Tryz.isAgg21
  z21 := Tryz.sizeOf21
  v21 := Tryz.zeroValue21
  t46 := Tryz.underlying147
  a46 := Tryz.isAgg147
  z46 := Tryz.sizeOf147
  v46 := Tryz.zeroValue147
  t105 := Tryz.underlying161
  a105 := Tryz.isAgg161
  z105 := Tryz.sizeOf161
  v105 := Tryz.zeroValue161
  t116 := Tryz.underlying132
  a116 := Tryz.isAgg132
  z116 := Tryz.sizeOf132
  t117 := Tryz.underlying133
  a117 := Tryz.isAgg133
  z117 := Tryz.sizeOf133
  v117 := Tryz.zeroValue133
  t119 := Tryz.underlying188
  a119 := Tryz.isAgg188
  z119 := Tryz.sizeOf188
  t124 := Tryz.underlying136
  a124 := Tryz.isAgg136
  z124 := Tryz.sizeOf136
  v124 := Tryz.zeroValue136
  t138 := Tryz.underlying190
  a138 := Tryz.isAgg190
  z138 := Tryz.sizeOf190
  v138 := Tryz.zeroValue190
  t139 := Tryz.underlying191
  a139 := Tryz.isAgg191
  z139 := Tryz.sizeOf191
  v139 := Tryz.zeroValue191
  g3 := by kernel_rfl
  g4 := by kernel_rfl }
def lays137_ren : Go.Shelf.Ren := ⟨fun | 137 => 100 | 217 => 131 | 266 => 155 | n => n, fun | 9 => 9 | 5 => 5 | 3 => 3 | n => n, fun | n => n⟩
theorem lays137 : Go.Proofs.Lays.n137 Tryz.prog lays137_ren := {
  mixed := by kernel_rfl
  f137 := Tryz.func100.trans (congrArg some (by kernel_rfl))
  f217 := Tryz.func131.trans (congrArg some (by kernel_rfl))
  f266 := Tryz.func155.trans (congrArg some (by kernel_rfl))
  t3 := Tryz.underlying3
  a3 := Tryz.isAgg3
  z3 := Tryz.sizeOf3
  v3 := Tryz.zeroValue3
  t5 := Tryz.underlying5
  a5 := Tryz.isAgg5
  z5 := Tryz.sizeOf5
  v5 := Tryz.zeroValue5
  t9 := Tryz.underlying9
  a9 := Tryz.isAgg9
  z9 := Tryz.sizeOf9
  v9 := Tryz.zeroValue9 }
open Go.RowKit in
theorem strings_IndexByte (s : ByteArray) (c : Int) (w : World) :
    Calls Tryz.prog 100 #[.string s, .int .u8 c] w fun e w' => e = .returned (.int .i64 (Lib.indexByte s.data.toList c.toNat.toUInt8)) ∧ w' = w := Any.strings_IndexByte lays137 s c w
def laysM171_ren : Go.Shelf.Ren := ⟨fun | 171 => 27 | 243 => 53 | 246 => 92 | 283 => 122 | 284 => 123 | 285 => 124 | 286 => 125 | 129 => 146 | 317 => 147 | 318 => 148 | 319 => 149 | 320 => 150 | 337 => 162 | 338 => 163 | n => n, fun | 3 => 3 | 9 => 9 | 2 => 2 | 4 => 4 | 171 => 155 | 0 => 0 | 53 => 156 | 37 => 22 | 5 => 5 | 173 => 159 | 212 => 177 | 51 => 175 | 20 => 20 | 213 => 178 | 46 => 147 | 232 => 203 | 233 => 204 | n => n, fun | 17 => 1 | 18 => 4 | 19 => 5 | n => n⟩
theorem laysM171 : Go.Proofs.LaysM.n171 Tryz.prog laysM171_ren := {
  mixed := by kernel_rfl
  f129 := Tryz.func146.trans (congrArg some (by kernel_rfl))
  f171 := Tryz.func27.trans (congrArg some (by kernel_rfl))
  f243 := Tryz.func53.trans (congrArg some (by kernel_rfl))
  f246 := Tryz.func92.trans (congrArg some (by kernel_rfl))
  f283 := Tryz.func122.trans (congrArg some (by kernel_rfl))
  f284 := Tryz.func123.trans (congrArg some (by kernel_rfl))
  f285 := Tryz.func124.trans (congrArg some (by kernel_rfl))
  f286 := Tryz.func125.trans (congrArg some (by kernel_rfl))
  f317 := Tryz.func147.trans (congrArg some (by kernel_rfl))
  f318 := Tryz.func148.trans (congrArg some (by kernel_rfl))
  f319 := Tryz.func149.trans (congrArg some (by kernel_rfl))
  f320 := Tryz.func150.trans (congrArg some (by kernel_rfl))
  f337 := Tryz.func162.trans (congrArg some (by kernel_rfl))
  f338 := Tryz.func163.trans (congrArg some (by kernel_rfl))
  t0 := Tryz.underlying0
  a0 := Tryz.isAgg0
  z0 := Tryz.sizeOf0
  v0 := Tryz.zeroValue0
  t2 := Tryz.underlying2
  a2 := Tryz.isAgg2
  z2 := Tryz.sizeOf2
  v2 := Tryz.zeroValue2
  t3 := Tryz.underlying3
  a3 := Tryz.isAgg3
  z3 := Tryz.sizeOf3
  v3 := Tryz.zeroValue3
  t4 := Tryz.underlying4
  a4 := Tryz.isAgg4
  z4 := Tryz.sizeOf4
  v4 := Tryz.zeroValue4
  t5 := Tryz.underlying5
  a5 := Tryz.isAgg5
  z5 := Tryz.sizeOf5
  v5 := Tryz.zeroValue5
  t9 := Tryz.underlying9
  a9 := Tryz.isAgg9
  z9 := Tryz.sizeOf9
  v9 := Tryz.zeroValue9
  t20 := Tryz.underlying20
  a20 := Tryz.isAgg20
  z20 := Tryz.sizeOf20
  v20 := Tryz.zeroValue20
  t37 := Tryz.underlying22
  a37 := Tryz.isAgg22
  z37 := Tryz.sizeOf22
  v37 := Tryz.zeroValue22
  t46 := Tryz.underlying147
  a46 := Tryz.isAgg147
  z46 := Tryz.sizeOf147
  v46 := Tryz.zeroValue147
  t51 := Tryz.underlying175
  a51 := Tryz.isAgg175
  z51 := Tryz.sizeOf175
  v51 := Tryz.zeroValue175
  t53 := Tryz.underlying156
  a53 := Tryz.isAgg156
  z53 := Tryz.sizeOf156
  v53 := Tryz.zeroValue156
  t171 := Tryz.underlying155
  a171 := Tryz.isAgg155
  z171 := Tryz.sizeOf155
  v171 := Tryz.zeroValue155
  t173 := Tryz.underlying159
  a173 := Tryz.isAgg159
  z173 := Tryz.sizeOf159
  v173 := Tryz.zeroValue159
  t212 := Tryz.underlying177
  a212 := Tryz.isAgg177
  z212 := Tryz.sizeOf177
  v212 := Tryz.zeroValue177
  t213 := Tryz.underlying178
  a213 := Tryz.isAgg178
  z213 := Tryz.sizeOf178
  t232 := Tryz.underlying203
  a232 := Tryz.isAgg203
  z232 := Tryz.sizeOf203
  v232 := Tryz.zeroValue203
  t233 := Tryz.underlying204
  a233 := Tryz.isAgg204
  z233 := Tryz.sizeOf204
  v233 := Tryz.zeroValue204
  g17 := by kernel_rfl
  g18 := by kernel_rfl
  g19 := by kernel_rfl
  i0 := by kernel_rfl
  i2 := by kernel_rfl
  i3 := by kernel_rfl
  i4 := by kernel_rfl
  i5 := by kernel_rfl
  i9 := by kernel_rfl
  i20 := by kernel_rfl
  i37 := by kernel_rfl
  i46 := by kernel_rfl
  i51 := by kernel_rfl
  i53 := by kernel_rfl
  i171 := by kernel_rfl
  i173 := by kernel_rfl
  i212 := by kernel_rfl
  i232 := by kernel_rfl
  i233 := by kernel_rfl
  m17 := by kernel_rfl
  m18 := by kernel_rfl
  m19 := by kernel_rfl }
open Go.RowKit Go.Sort Go.Lib in
theorem strconv_Itoa (n : Int) (h0 : -9223372036854775808 ≤ n) (h1 : n ≤ 9223372036854775807) (w : World) (htab : Lib.TabIs Tryz.prog w "internal/strconv.uint64pow10" .u64 Lib.pow10Tab) :
    Calls Tryz.prog 27 #[.int .i64 n] w fun e w' => e = .returned (.string ⟨(Lib.itoa n).toArray⟩) ∧ ∃ k os, w' = grow (w.drewN k) os := Any.strconv_Itoa laysM171 n h0 h1 w htab
def laysC172_ren : Go.Shelf.Ren := ⟨fun | 172 => 129 | 244 => 153 | 245 => 154 | 247 => 167 | 279 => 168 | 280 => 169 | 281 => 170 | 282 => 171 | 287 => 173 | 316 => 174 | 171 => 27 | 205 => 175 | 321 => 176 | 322 => 177 | 243 => 53 | 246 => 92 | 283 => 122 | 284 => 123 | 285 => 124 | 286 => 125 | 129 => 146 | 317 => 147 | 318 => 148 | 319 => 149 | 320 => 150 | 337 => 162 | 338 => 163 | n => n, fun | 9 => 9 | 3 => 3 | 75 => 99 | 76 => 100 | 4 => 4 | 5 => 5 | 167 => 194 | 37 => 22 | 0 => 0 | 85 => 195 | 2 => 2 | 168 => 197 | 53 => 156 | 175 => 205 | 46 => 147 | 210 => 209 | 127 => 106 | 145 => 214 | 143 => 212 | 21 => 21 | 171 => 155 | 173 => 159 | 212 => 177 | 51 => 175 | 20 => 20 | 213 => 178 | 232 => 203 | 233 => 204 | 80 => 71 | n => n, fun | 15 => 6 | 16 => 7 | 17 => 1 | 18 => 4 | 19 => 5 | n => n⟩
theorem laysC172 : Go.Proofs.LaysC.n172 Tryz.prog laysC172_ren := {
  mixed := by kernel_rfl
  f129 := Tryz.func146.trans (congrArg some (by kernel_rfl))
  f171 := Tryz.func27.trans (congrArg some (by kernel_rfl))
  f172 := Tryz.func129.trans (congrArg some (by kernel_rfl))
  f205 := Tryz.func175.trans (congrArg some (by kernel_rfl))
  f243 := Tryz.func53.trans (congrArg some (by kernel_rfl))
  f244 := Tryz.func153.trans (congrArg some (by kernel_rfl))
  f245 := Tryz.func154.trans (congrArg some (by kernel_rfl))
  f246 := Tryz.func92.trans (congrArg some (by kernel_rfl))
  f247 := Tryz.func167.trans (congrArg some (by kernel_rfl))
  f279 := Tryz.func168.trans (congrArg some (by kernel_rfl))
  f280 := Tryz.func169.trans (congrArg some (by kernel_rfl))
  f281 := Tryz.func170.trans (congrArg some (by kernel_rfl))
  f282 := Tryz.func171.trans (congrArg some (by kernel_rfl))
  f283 := Tryz.func122.trans (congrArg some (by kernel_rfl))
  f284 := Tryz.func123.trans (congrArg some (by kernel_rfl))
  f285 := Tryz.func124.trans (congrArg some (by kernel_rfl))
  f286 := Tryz.func125.trans (congrArg some (by kernel_rfl))
  f287 := Tryz.func173.trans (congrArg some (by kernel_rfl))
  f316 := Tryz.func174.trans (congrArg some (by kernel_rfl))
  f317 := Tryz.func147.trans (congrArg some (by kernel_rfl))
  f318 := Tryz.func148.trans (congrArg some (by kernel_rfl))
  f319 := Tryz.func149.trans (congrArg some (by kernel_rfl))
  f320 := Tryz.func150.trans (congrArg some (by kernel_rfl))
  f321 := Tryz.func176.trans (congrArg some (by kernel_rfl))
  f322 := Tryz.func177.trans (congrArg some (by kernel_rfl))
  f337 := Tryz.func162.trans (congrArg some (by kernel_rfl))
  f338 := Tryz.func163.trans (congrArg some (by kernel_rfl))
  t0 := Tryz.underlying0
  a0 := Tryz.isAgg0
  z0 := Tryz.sizeOf0
  v0 := Tryz.zeroValue0
  t2 := Tryz.underlying2
  a2 := Tryz.isAgg2
  z2 := Tryz.sizeOf2
  v2 := Tryz.zeroValue2
  t3 := Tryz.underlying3
  a3 := Tryz.isAgg3
  z3 := Tryz.sizeOf3
  v3 := Tryz.zeroValue3
  t4 := Tryz.underlying4
  a4 := Tryz.isAgg4
  z4 := Tryz.sizeOf4
  v4 := Tryz.zeroValue4
  t5 := Tryz.underlying5
  a5 := Tryz.isAgg5
  z5 := Tryz.sizeOf5
  v5 := Tryz.zeroValue5
  t9 := Tryz.underlying9
  a9 := Tryz.isAgg9
  z9 := Tryz.sizeOf9
  v9 := Tryz.zeroValue9
  t20 := Tryz.underlying20
  a20 := Tryz.isAgg20
  z20 := Tryz.sizeOf20
  v20 := Tryz.zeroValue20
  t21 := Tryz.underlying21
  a21 := Tryz.isAgg21
  z21 := Tryz.sizeOf21
  v21 := Tryz.zeroValue21
  t37 := Tryz.underlying22
  a37 := Tryz.isAgg22
  z37 := Tryz.sizeOf22
  v37 := Tryz.zeroValue22
  t46 := Tryz.underlying147
  a46 := Tryz.isAgg147
  z46 := Tryz.sizeOf147
  v46 := Tryz.zeroValue147
  t51 := Tryz.underlying175
  a51 := Tryz.isAgg175
  z51 := Tryz.sizeOf175
  v51 := Tryz.zeroValue175
  t53 := Tryz.underlying156
  a53 := Tryz.isAgg156
  z53 := Tryz.sizeOf156
  v53 := Tryz.zeroValue156
  t75 := Tryz.underlying99
  a75 := Tryz.isAgg99
  z75 := Tryz.sizeOf99
  v75 := Tryz.zeroValue99
  t76 := Tryz.underlying100
  a76 := Tryz.isAgg100
  z76 := Tryz.sizeOf100
  v76 := Tryz.zeroValue100
  t85 := Tryz.underlying195
  a85 := Tryz.isAgg195
  z85 := Tryz.sizeOf195
  v85 := Tryz.zeroValue195
  t127 := Tryz.underlying106
  a127 := Tryz.isAgg106
  z127 := Tryz.sizeOf106
  v127 := Tryz.zeroValue106
  t143 := Tryz.underlying212
  a143 := Tryz.isAgg212
  z143 := Tryz.sizeOf212
  v143 := Tryz.zeroValue212
  t145 := Tryz.underlying214
  a145 := Tryz.isAgg214
  z145 := Tryz.sizeOf214
  v145 := Tryz.zeroValue214
  t167 := Tryz.underlying194
  a167 := Tryz.isAgg194
  z167 := Tryz.sizeOf194
  v167 := Tryz.zeroValue194
  t168 := Tryz.underlying197
  a168 := Tryz.isAgg197
  z168 := Tryz.sizeOf197
  v168 := Tryz.zeroValue197
  t171 := Tryz.underlying155
  a171 := Tryz.isAgg155
  z171 := Tryz.sizeOf155
  v171 := Tryz.zeroValue155
  t173 := Tryz.underlying159
  a173 := Tryz.isAgg159
  z173 := Tryz.sizeOf159
  v173 := Tryz.zeroValue159
  t175 := Tryz.underlying205
  a175 := Tryz.isAgg205
  z175 := Tryz.sizeOf205
  v175 := Tryz.zeroValue205
  t210 := Tryz.underlying209
  a210 := Tryz.isAgg209
  z210 := Tryz.sizeOf209
  v210 := Tryz.zeroValue209
  t212 := Tryz.underlying177
  a212 := Tryz.isAgg177
  z212 := Tryz.sizeOf177
  v212 := Tryz.zeroValue177
  t213 := Tryz.underlying178
  a213 := Tryz.isAgg178
  z213 := Tryz.sizeOf178
  t232 := Tryz.underlying203
  a232 := Tryz.isAgg203
  z232 := Tryz.sizeOf203
  v232 := Tryz.zeroValue203
  t233 := Tryz.underlying204
  a233 := Tryz.isAgg204
  z233 := Tryz.sizeOf204
  v233 := Tryz.zeroValue204
  g15 := by kernel_rfl
  g16 := by kernel_rfl
  g17 := by kernel_rfl
  g18 := by kernel_rfl
  g19 := by kernel_rfl
  t80 := Tryz.underlying71
  a80 := Tryz.isAgg71
  z80 := Tryz.sizeOf71
  v80 := Tryz.zeroValue71
  i0 := by kernel_rfl
  i2 := by kernel_rfl
  i3 := by kernel_rfl
  i4 := by kernel_rfl
  i5 := by kernel_rfl
  i9 := by kernel_rfl
  i20 := by kernel_rfl
  i21 := by kernel_rfl
  i37 := by kernel_rfl
  i46 := by kernel_rfl
  i51 := by kernel_rfl
  i53 := by kernel_rfl
  i75 := by kernel_rfl
  i76 := by kernel_rfl
  i80 := by kernel_rfl
  i85 := by kernel_rfl
  i127 := by kernel_rfl
  i143 := by kernel_rfl
  i145 := by kernel_rfl
  i167 := by kernel_rfl
  i168 := by kernel_rfl
  i171 := by kernel_rfl
  i173 := by kernel_rfl
  i175 := by kernel_rfl
  i210 := by kernel_rfl
  i212 := by kernel_rfl
  i232 := by kernel_rfl
  i233 := by kernel_rfl
  m15 := by kernel_rfl
  m16 := by kernel_rfl
  m17 := by kernel_rfl
  m18 := by kernel_rfl
  m19 := by kernel_rfl
  c0 := by kernel_rfl
  c2 := by kernel_rfl
  c3 := by kernel_rfl
  c4 := by kernel_rfl
  c5 := by kernel_rfl
  c9 := by kernel_rfl
  c20 := by kernel_rfl
  c21 := by kernel_rfl
  c37 := by kernel_rfl
  c46 := by kernel_rfl
  c51 := by kernel_rfl
  c53 := by kernel_rfl
  c75 := by kernel_rfl
  c76 := by kernel_rfl
  c80 := by kernel_rfl
  c85 := by kernel_rfl
  c127 := by kernel_rfl
  c143 := by kernel_rfl
  c145 := by kernel_rfl
  c167 := by kernel_rfl
  c168 := by kernel_rfl
  c171 := by kernel_rfl
  c173 := by kernel_rfl
  c175 := by kernel_rfl
  c210 := by kernel_rfl
  c212 := by kernel_rfl
  c213 := by kernel_rfl
  c232 := by kernel_rfl
  c233 := by kernel_rfl }
open Go.RowKit in
theorem strconv_Atoi_ok (s : ByteArray) (hmax : s.size ≤ 9223372036854775806) (v : Int) (h : Lib.atoiAll s.data.toList = .ok v) (w : World) :
    Calls Tryz.prog 129 #[.string s] w fun e w' => e = .returned (.tuple #[.int .i64 v, .nilIface]) ∧ (w' = w ∨ ∃ t, w' = Lib.bytesWorld w 5 t) := Any.strconv_Atoi_ok laysC172 s hmax v h w
open Go.RowKit in
theorem strconv_Atoi_range_var (s : ByteArray) (hlim : s.size ≤ 281474976710656) (h : Lib.atoiAll s.data.toList = .range) (tp : TypeId) (p : Value) (w : World) (hvar : w.var? Tryz.prog "strconv.ErrRange" = some #[.iface tp p]) :
    Calls Tryz.prog 129 #[.string s] w fun e w' => ∃ N, e = .returned (.tuple #[.int .i64 (Lib.atoiSat s.data.toList), .iface 197 (.pointer (some ⟨N, 0, none⟩))]) ∧ w.heap.size ≤ N ∧ w'.heap[N]? = some (.cells #[.string ⟨#[65, 116, 111, 105]⟩, .string s, .iface tp p] 209 (0, 0)) ∧ Below w.heap.size w w' := Any.strconv_Atoi_range_var laysC172 s hlim h tp p w hvar
def lays99_ren : Go.Shelf.Ren := ⟨fun | 99 => 99 | 206 => 130 | n => n, fun | 9 => 9 | 4 => 4 | 3 => 3 | n => n, fun | n => n⟩
theorem lays99 : Go.Proofs.Lays.n99 Tryz.prog lays99_ren := {
  mixed := by kernel_rfl
  f99 := Tryz.func99.trans (congrArg some (by kernel_rfl))
  f206 := Tryz.func130.trans (congrArg some (by kernel_rfl))
  t3 := Tryz.underlying3
  a3 := Tryz.isAgg3
  z3 := Tryz.sizeOf3
  v3 := Tryz.zeroValue3
  t4 := Tryz.underlying4
  a4 := Tryz.isAgg4
  z4 := Tryz.sizeOf4
  v4 := Tryz.zeroValue4
  t9 := Tryz.underlying9
  a9 := Tryz.isAgg9
  z9 := Tryz.sizeOf9
  v9 := Tryz.zeroValue9 }
open Go.RowKit Go.Lib in
theorem strings_HasPrefix (s p : ByteArray) (w : World) :
    Calls Tryz.prog 99 #[.string s, .string p] w fun e w' => e = .returned (.bool (Lib.hasPrefix s.data.toList p.data.toList)) ∧ w' = w := Any.strings_HasPrefix lays99 s p w
end Lx
end Go.Proofs.YtphlbbnmligadaaGreatDoor
namespace Go.Proofs.YtphlbbnmligadaaGreatDoor
namespace Lx
open Go.RowKit

/-- A token's box. -/
structure TBox (w : World) (B : Nat) (v0 v1 v2 v3 : Value) : Prop where
  lt : B < w.heap.size
  c0 : w.cell? ⟨B, 0, none⟩ = some v0
  c1 : w.cell? ⟨B, 1, none⟩ = some v1
  c2 : w.cell? ⟨B, 2, none⟩ = some v2
  c3 : w.cell? ⟨B, 3, none⟩ = some v3
  f0 : ∀ o, w.frozen? ⟨B, o, none⟩ = false
theorem TBox.block {w w' : World} {B : Nat} {v0 v1 v2 v3 : Value} (h : TBox w B v0 v1 v2 v3) (hs : w.heap.size ≤ w'.heap.size) (hb : w'.heap[B]? = w.heap[B]?) : TBox w' B v0 v1 v2 v3 :=
  ⟨Nat.lt_of_lt_of_le h.lt hs, (World.cell?_of_block (w := w) (a := ⟨B, 0, none⟩) hb).trans h.c0, (World.cell?_of_block (w := w) (a := ⟨B, 1, none⟩) hb).trans h.c1, (World.cell?_of_block (w := w) (a := ⟨B, 2, none⟩) hb).trans h.c2,
    (World.cell?_of_block (w := w) (a := ⟨B, 3, none⟩) hb).trans h.c3, fun o => (World.frozen?_of_block (w := w) (a := ⟨B, o, none⟩) hb).trans (h.f0 o)⟩
theorem TBox.below {w w' : World} {B n : Nat} {v0 v1 v2 v3 : Value} (h : TBox w B v0 v1 v2 v3) (hb : Below n w w') (hn : B < n) : TBox w' B v0 v1 v2 v3 := h.block hb.size (hb.block B hn)
theorem TBox.new (w : World) (t : TypeId) (v0 v1 v2 v3 : Value) : TBox (w.alloc (.cells #[v0, v1, v2, v3] t)) w.heap.size v0 v1 v2 v3 :=
  ⟨by simp, by go_simp, by go_simp, by go_simp, by go_simp, fun o => by go_simp⟩

theorem ext_take (s : ByteArray) (n : Nat) : (s.extract 0 n).data.toList = s.data.toList.take n := by
  rw [Lib.extract_data, List.drop_zero, Nat.sub_zero]
theorem ext_size (s : ByteArray) (n : Nat) (h : n ≤ s.size) : (s.extract 0 n).size = n := by
  have := congrArg List.length (ext_take s n)
  rw [data_len, List.length_take, data_len] at this
  omega
theorem bytes_eq (s : ByteArray) : s = ⟨s.data.toList.toArray⟩ := by cases s; simp

theorem strV_eq (s : ByteArray) : strV s.data.toList = .string s := congrArg Value.string (bytes_eq s).symm

def AtoiPost (l : List UInt8) (w : World) (e : Ending) (w' : World) : Prop :=
  Below w.heap.size w w' ∧ ((l.length ≤ 6 ∧ e = .returned (.tuple #[.int .i64 (numLx l), .nilIface])) ∨ (6 < l.length ∧ ∃ n v, e = .returned (.tuple #[.int .i64 n, v]) ∧ (v = .nilIface ∨ ∃ t p, v = .iface t (.pointer (some p)))))

theorem atoi_any (s : ByteArray) (w : World) (hs : s.size ≤ 100000) (hd : ∀ c ∈ s.data.toList, digitB c = true) (hne : s.data.toList ≠ []) (tp : TypeId) (p : Value) (hvar : w.var? Tryz.prog "strconv.ErrRange" = some #[.iface tp p]) :
    Calls Tryz.prog 129 #[.string s] w (AtoiPost s.data.toList w) := by
  by_cases h6 : s.data.toList.length ≤ 6
  · refine (strconv_Atoi_ok s (by omega) (numLx s.data.toList) (atoi_small _ hd hne h6) w).mono ?_
    rintro e w' ⟨rfl, hw⟩
    refine ⟨?_, .inl ⟨h6, rfl⟩⟩
    rcases hw with rfl | ⟨t, rfl⟩
    · exact Below.refl _ _
    · exact Lib.bytesWorld_below _ _ _
  · rcases atoi_digits _ hd hne with ⟨v, hx⟩ | hx
    · refine (strconv_Atoi_ok s (by omega) v hx w).mono ?_
      rintro e w' ⟨rfl, hw⟩
      refine ⟨?_, .inr ⟨by omega, _, _, rfl, .inl rfl⟩⟩
      rcases hw with rfl | ⟨t, rfl⟩
      · exact Below.refl _ _
      · exact Lib.bytesWorld_below _ _ _
    · refine (strconv_Atoi_range_var s (by omega) hx tp p w hvar).mono ?_
      rintro e w' ⟨N, rfl, _, _, hB⟩
      exact ⟨hB, .inr ⟨by omega, _, _, rfl, .inr ⟨_, _, rfl⟩⟩⟩
theorem below_grow (w : World) (q : Nat) (os : Array Obj) : Below w.heap.size w (Sort.grow (w.drewN q) os) :=
  ⟨rfl, rfl, rfl, by first | (simp [Sort.grow]; done) | (simp [Sort.grow]; omega), fun i hi => by
    show ((w.drewN q).heap ++ os)[i]? = _
    rw [Array.getElem?_append_left (by show i < w.heap.size; omega)]
    rfl⟩

theorem itoa_any (n : Int) (h0 : 0 ≤ n) (h1 : n ≤ 1000000) (w : World) (htab : Lib.TabIs Tryz.prog w "internal/strconv.uint64pow10" .u64 Lib.pow10Tab) :
    Calls Tryz.prog 27 #[.int .i64 n] w fun e w' => e = .returned (strV (Lib.decDigits n.toNat)) ∧ Below w.heap.size w w' := by
  refine (strconv_Itoa n (by omega) (by omega) w htab).mono ?_
  rintro e w' ⟨rfl, k, os, rfl⟩
  refine ⟨?_, below_grow _ _ _⟩
  unfold Lib.itoa
  rw [if_neg (by omega)]

/-- What number says of a text that begins with a digit. -/
def numOk (l : List UInt8) : Bool := decide (¬ (6 < runP digitB l ∨ 1 < runP digitB l ∧ l.head? = some 48))
def NumPost (l : List UInt8) (w : World) (e : Ending) (w' : World) : Prop :=
  ∃ n, e = .returned (.tuple #[.agg #[.int .i64 2, strV (l.take (runP digitB l)), .int .i64 n, .int .i64 0], .bool (numOk l)]) ∧ (numOk l = true → n = numLx (l.take (runP digitB l))) ∧ Below w.heap.size w w'

/-- The package variables that a call may read. -/
structure Vars (w : World) : Prop where
  tab : Lib.TabIs Tryz.prog w "internal/strconv.uint64pow10" .u64 Lib.pow10Tab
  err : ∃ tp p, w.var? Tryz.prog "strconv.ErrRange" = some #[.iface tp p]
noncomputable def gErr : Nat := (Tryz.prog.globalNamed "strconv.ErrRange").getD 0
noncomputable def gTab : Nat := (Tryz.prog.globalNamed "internal/strconv.uint64pow10").getD 0
theorem gErr_eq : Tryz.prog.globalNamed "strconv.ErrRange" = some gErr := by kernel_rfl
theorem gTab_eq : Tryz.prog.globalNamed "internal/strconv.uint64pow10" = some gTab := by kernel_rfl
theorem var_lt {w : World} {name : String} {g : Nat} {cs : Array Value} (hg : Tryz.prog.globalNamed name = some g) (h : w.var? Tryz.prog name = some cs) : g < w.heap.size := by
  unfold World.var? at h
  rw [hg] at h
  simp only [Option.bind_some] at h
  cases hx : w.heap[g]? with
  | none => rw [hx] at h; cases h
  | some o => exact (Array.getElem?_eq_some_iff.1 hx).1
/-- They lie below this block. -/
noncomputable def gTop : Nat := Nat.max gErr gTab + 1
theorem Vars.size {w : World} (h : Vars w) : gTop ≤ w.heap.size := by
  obtain ⟨tp, p, he⟩ := h.err
  have h1 := var_lt gErr_eq he
  have h2 := var_lt gTab_eq h.tab
  unfold gTop
  have : Nat.max gErr gTab = gErr ∨ Nat.max gErr gTab = gTab := by
    rcases Nat.le_total gErr gTab with h | h
    · exact .inr (Nat.max_eq_right h)
    · exact .inl (Nat.max_eq_left h)
  omega
theorem Vars.below {w w' : World} {n : Nat} (h : Vars w) (hb : Below n w w') (hn : gTop ≤ n) : Vars w' := by
  have m1 : gErr ≤ Nat.max gErr gTab := Nat.le_max_left _ _
  have m2 : gTab ≤ Nat.max gErr gTab := Nat.le_max_right _ _
  unfold gTop at hn
  obtain ⟨tp, p, he⟩ := h.err
  exact ⟨var?_below hb gTab_eq (by omega) h.tab, tp, p, var?_below hb gErr_eq (by omega) he⟩
theorem Vars.next {w w' : World} (h : Vars w) (hb : Below w.heap.size w w') : Vars w' := h.below hb h.size

theorem runP_head (l : List UInt8) : (l.take (runP digitB l)).length = runP digitB l := by rw [List.length_take]; have := runP_le digitB l; omega

theorem set4_below {n : Nat} {w W : World} {B : Nat} {a b c d : Value} (h : Below n w W) (hB : n ≤ B) : Below n w ((((W.setCell ⟨B, 0, none⟩ a).setCell ⟨B, 1, none⟩ b).setCell ⟨B, 2, none⟩ c).setCell ⟨B, 3, none⟩ d) :=
  (((h.setCell hB _).setCell hB _).setCell hB _).setCell hB _

set_option maxRecDepth 100000 in
set_option maxHeartbeats 4000000 in
theorem number_any (s : ByteArray) (w : World) (hs : s.size ≤ 100000) (h0 : ∃ c r, s.data.toList = c :: r ∧ digitB c = true) (hv : Vars w) :
    Calls Tryz.prog 98 #[.string s] w (NumPost s.data.toList w) := by
  obtain ⟨c, r, hcr, hc⟩ := h0
  obtain ⟨n, hn⟩ : ∃ n, runP digitB s.data.toList = n := ⟨_, rfl⟩
  have hle : n ≤ s.size := by rw [← hn, ← data_len]; exact runP_le _ _
  have hpos : 1 ≤ n := by rw [← hn, hcr, runP_cons_pos hc]; omega
  have ht : (s.extract 0 n).data.toList = s.data.toList.take (runP digitB s.data.toList) := by rw [ext_take, hn]
  have hsz := ext_size s n hle
  have htl : (s.data.toList.take (runP digitB s.data.toList)).length = n := by rw [runP_head, hn]
  have hdig := run_digits s.data.toList
  have hne : (s.extract 0 n).data.toList ≠ [] := by
    intro e
    rw [ht] at e
    rw [e] at htl
    simp at htl; omega
  have hok : numOk s.data.toList = decide (¬ (6 < n ∨ 1 < n ∧ c = 48)) := by
    unfold numOk
    rw [hn, hcr]
    simp
  have hhead : (s.data.toList.take (runP digitB s.data.toList)).head? = some c := by
    rw [hn, hcr]
    cases n with
    | zero => omega
    | succ n => simp
  have hB1 : Below w.heap.size w (w.alloc (.cells #[.int .i64 0, .string { data := #[] }, .int .i64 0, .int .i64 0] 76)) := (Below.refl _ w).alloc (Nat.le_refl _) _
  have hV1 := hv.next hB1
  obtain ⟨tp, p, hE1⟩ := hV1.err
  have tb1 := TBox.new w 76 (.int .i64 0) (.string { data := #[] }) (.int .i64 0) (.int .i64 0)
  have hA := atoi_any (s.extract 0 n) (w.alloc (.cells #[.int .i64 0, .string { data := #[] }, .int .i64 0, .int .i64 0] 76)) (by omega) (by rw [ht]; exact hdig) hne tp p hE1
  rw [ht] at hA
  have hpost : Hid (∀ (v : Int) (b : Bool) (w' : World), b = numOk s.data.toList → (b = true → v = numLx (s.data.toList.take (runP digitB s.data.toList))) → Below w.heap.size w w' →
      NumPost s.data.toList w (.returned (.tuple #[.agg #[.int .i64 2, .string (s.extract 0 n), .int .i64 v, .int .i64 0], .bool b])) w') := by
    intro v b w' hb hvv hB
    subst hb
    refine ⟨v, ?_, hvv, hB⟩
    rw [← ht, strV_eq]
  have hrun := run_digit s (w.alloc (.cells #[.int .i64 0, .string { data := #[] }, .int .i64 0, .int .i64 0] 76)) hs
  rw [hn] at hrun
  have hle' : (n : Int) ≤ s.size := by omega
  have hn0 : (0 : Int) ≤ n := by omega
  have Hcr := hid hcr
  clear hcr
  by_cases h6 : n ≤ 6
  · have h6' : (n : Int) ≤ 6 := by omega
    have hN : numLx (s.data.toList.take (runP digitB s.data.toList)) = (numN (s.data.toList.take (runP digitB s.data.toList)) : Int) := numL_numN _ hdig
    have hNlt := numN_lt _ hdig
    rw [htl] at hNlt
    have hp6 : 10 ^ n ≤ 10 ^ 6 := Nat.pow_le_pow_right (by omega) h6
    have hB := hid hdig
    generalize hlst : s.data.toList.take (runP digitB s.data.toList) = d at *
    have Hd := hid hlst
    clear hlst
    obtain ⟨N, hNN⟩ : ∃ N, numN d = N := ⟨_, rfl⟩
    have hA6 := hA.mono (R' := fun e w2 => Below (w.heap.size + 1) (w.alloc (.cells #[.int .i64 0, .string { data := #[] }, .int .i64 0, .int .i64 0] 76)) w2 ∧ e = .returned (.tuple #[.int .i64 N, .nilIface])) (by
      rintro e w2 ⟨h1, h2 | h2⟩
      · rw [hN, hNN] at h2
        exact ⟨by simpa using h1, h2.2⟩
      · omega)
    clear hA
    have g1 : gTop ≤ w.heap.size + 1 := by have := hv.size; omega
    have hN0 : (0 : Int) ≤ N := by omega
    have hN1 : (N : Int) ≤ 1000000 := by omega
    go_enter Tryz.func98, Tryz.ntmps98
    go_wp2_with (first
      | (go_at_call 69; refine hrun.mono ?_; rintro e w1 ⟨rfl, rfl⟩)
      | (go_at_call 129; refine hA6.mono ?_; rintro e w2 ⟨hB2, rfl⟩
         have hV2 := hV1.below hB2 g1
         have tb2 := tb1.below hB2 (Nat.lt_succ_self _))
      | (go_at_call 27; refine (itoa_any _ hN0 hN1 _ hV2.tab).mono ?_; rintro e w3 ⟨rfl, hB3⟩
         have tb3 := tb2.below hB3 tb2.lt
         have c0 := tb3.c0
         have c1 := tb3.c1
         have c2 := tb3.c2
         have c3 := tb3.c3
         have f0 := tb3.f0)
      | fail)
    refine bodyPost_ret (v := .tuple #[.agg #[.int .i64 2, .string (s.extract 0 n), .int .i64 N, .int .i64 0], .bool (Lib.decDigits N == (s.extract 0 n).toList)]) (by simp [results, Tryz.results98, go_sem, c0, c1, c2, c3]) rfl ?_
    refine hpost.out N _ _ ?_ (fun _ => by rw [hN, hNN]) (set4_below (hB1.trans ((hB2.mono (Nat.le_succ _)).trans (hB3.mono (by have := hB2.size; simp at this; omega)))) (Nat.le_refl _))
    rw [hok, Lib.toList_data, ht, ← hNN]
    by_cases hx : 1 < n ∧ c = 48
    · rw [decide_eq_false (by simp [hx])]
      have := dec_not d (by rw [htl]; exact hx.1) (by rw [hhead, hx.2])
      simpa using this
    · rw [decide_eq_true (by intro h; rcases h with h | h; omega; exact hx h)]
      have := dec_back d hB.out (by intro e; rw [e] at htl; simp at htl; omega) (by
        by_cases h1 : 1 < n
        · right
          intro e he
          rw [hhead] at he
          cases he
          exact fun e => hx ⟨h1, e⟩
        · left; omega)
      simpa using this
  · have hA7 := hA.mono (R' := fun e w2 => Below (w.heap.size + 1) (w.alloc (.cells #[.int .i64 0, .string { data := #[] }, .int .i64 0, .int .i64 0] 76)) w2 ∧ ∃ v b, e = .returned (.tuple #[.int .i64 v, b]) ∧ (b = .nilIface ∨ ∃ t p, b = .iface t (.pointer (some p)))) (by
      rintro e w2 ⟨h1, h2 | h2⟩
      · omega
      · exact ⟨by simpa using h1, h2.2⟩)
    clear hA
    have h6' : (6 : Int) < n := by omega
    have g1 : gTop ≤ w.heap.size + 1 := by have := hv.size; omega
    have hno : Hid (numOk s.data.toList = false) := by
      show _ = _
      rw [hok, decide_eq_false (by intro h; exact h (.inl (by omega)))]
    go_enter Tryz.func98, Tryz.ntmps98
    go_wp2_with (first
      | (go_at_call 69; refine hrun.mono ?_; rintro e w1 ⟨rfl, rfl⟩)
      | (go_at_call 129; refine hA7.mono ?_; rintro e w2 ⟨hB2, v, b, rfl, rfl | ⟨t, p, rfl⟩⟩
         all_goals
           have tb2 := tb1.below hB2 (Nat.lt_succ_self _)
           have c0 := tb2.c0
           have c1 := tb2.c1
           have c2 := tb2.c2
           have c3 := tb2.c3
           have f0 := tb2.f0)
      | fail)
    all_goals refine bodyPost_ret (v := .tuple #[.agg #[.int .i64 2, .string (s.extract 0 n), .int .i64 v, .int .i64 0], .bool false]) (by simp [results, Tryz.results98, go_sem, c0, c1, c2, c3]) rfl ?_
    all_goals exact hpost.out v _ _ hno.out.symm (fun h => by cases h) (set4_below (hB1.trans (hB2.mono (Nat.le_succ _))) (Nat.le_refl _))
end Lx
end Go.Proofs.YtphlbbnmligadaaGreatDoor
