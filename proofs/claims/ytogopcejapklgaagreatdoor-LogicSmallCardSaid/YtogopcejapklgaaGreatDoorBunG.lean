/- Formulas in plain Lean: their words, texts and tokens, and how they are parsed (of no program). -/
import Derived.Test.YtogopcejapklgaaGreatDoorBunL
namespace Go.Proofs.YtogopcejapklgaaGreatDoor

/-- An atom: its kind, its thread, its place, its number. -/
structure Pr where
  k : Int
  t : Int
  a : Int
  n : Int
/-- A formula: its kind, its atom, its parts. -/
inductive Fm where
  | mk (k : Int) (p : Pr) (l : List Fm)
namespace Fm
def kind : Fm → Int | mk k _ _ => k
def prop : Fm → Pr | mk _ p _ => p
def kids : Fm → List Fm | mk _ _ l => l
end Fm
theorem Fm.ind {P : Fm → Prop} (h : ∀ k p l, (∀ x, x ∈ l → P x) → P (.mk k p l)) : ∀ x, P x
  | .mk k p l => h k p l fun x _hx => Fm.ind h x
termination_by x => SizeOf.sizeOf x
decreasing_by
  have := List.sizeOf_lt_of_mem _hx
  simp only [Fm.mk.sizeOf_spec]; omega

mutual
def Fm.size : Fm → Nat
  | .mk _ _ l => 1 + Fm.sizeL l
def Fm.sizeL : List Fm → Nat
  | [] => 0
  | f :: l => f.size + Fm.sizeL l
end
theorem Fm.size_eq (k : Int) (p : Pr) (l : List Fm) : (Fm.mk k p l).size = 1 + Fm.sizeL l := by rw [Fm.size]
theorem Fm.sizeL_cons (f : Fm) (l : List Fm) : Fm.sizeL (f :: l) = f.size + Fm.sizeL l := by rw [Fm.sizeL]
theorem Fm.sizeL_nil : Fm.sizeL [] = 0 := by rw [Fm.sizeL]
theorem Fm.size_pos (f : Fm) : 1 ≤ f.size := by cases f; rw [Fm.size_eq]; omega
theorem Fm.sizeL_append (l m : List Fm) : Fm.sizeL (l ++ m) = Fm.sizeL l + Fm.sizeL m := by
  induction l with
  | nil => rw [Fm.sizeL_nil]; simp
  | cons x l ih => rw [List.cons_append, Fm.sizeL_cons, Fm.sizeL_cons, ih]; omega

def Pr.zero : Pr := ⟨0, 0, 0, 0⟩
def Pr.get (p : Pr) (i : Nat) : Int := if i = 1 then p.t else if i = 2 then p.a else if i = 3 then p.n else p.k
def Pr.put (p : Pr) (i : Nat) (x : Int) : Pr := if i = 1 then ⟨p.k, x, p.a, p.n⟩ else if i = 2 then ⟨p.k, p.t, x, p.n⟩ else if i = 3 then ⟨p.k, p.t, p.a, x⟩ else ⟨x, p.t, p.a, p.n⟩

/-- An atom's word; the places of its numbers. -/
def shpN (k : Int) : List UInt8 := if k = 1 then [109, 101, 109] else if k = 2 then [114, 101, 103] else if k = 3 then [97, 116] else if k = 4 then [101, 109, 112, 116, 121] else if k = 5 then [98, 97, 100] else if k = 6 then [101, 110, 100, 101, 100] else []
def offs (k : Int) : List Nat := if k = 1 then [2, 3] else if k = 2 then [1, 2, 3] else if k = 3 then [1, 3] else if k = 4 then [1] else if k = 6 then [1] else []
/-- A kind's word; how many parts it has. -/
def frmN (k : Int) : List UInt8 :=
  if k = 1 then [116, 114, 117, 101] else if k = 2 then [102, 97, 108, 115, 101] else if k = 4 then [110, 111, 116] else if k = 5 then [97, 110, 100] else if k = 6 then [111, 114] else if k = 7 then [105, 109, 112, 108, 121]
  else if k = 8 then [110, 101, 120, 116] else if k = 9 then [117, 110, 116, 105, 108] else if k = 10 then [114, 101, 108, 101, 97, 115, 101] else if k = 11 then [97, 108, 119, 97, 121, 115] else if k = 12 then [101, 118, 101, 114] else []
def frmK (k : Int) : Nat := if k = 4 then 1 else if k = 5 then 2 else if k = 6 then 2 else if k = 7 then 2 else if k = 8 then 1 else if k = 9 then 2 else if k = 10 then 2 else if k = 11 then 1 else if k = 12 then 1 else 0
def isShp (k : Int) : Prop := k = 1 ∨ k = 2 ∨ k = 3 ∨ k = 4 ∨ k = 5 ∨ k = 6
def isFrm (k : Int) : Prop := k = 1 ∨ k = 2 ∨ k = 4 ∨ k = 5 ∨ k = 6 ∨ k = 7 ∨ k = 8 ∨ k = 9 ∨ k = 10 ∨ k = 11 ∨ k = 12
/-- Which one a word is. -/
def shpW (s : List UInt8) : Option Int := [1, 2, 3, 4, 5, 6].find? fun k => shpN k == s
def frmW (s : List UInt8) : Option Int := [1, 2, 4, 5, 6, 7, 8, 9, 10, 11, 12].find? fun k => frmN k == s
theorem shpW_some {s : List UInt8} {k : Int} (h : shpW s = some k) : isShp k ∧ shpN k = s := by
  unfold shpW at h
  have h1 := List.find?_some h
  have h2 := List.mem_of_find?_eq_some h
  simp at h1 h2
  exact ⟨h2, h1⟩
theorem frmW_some {s : List UInt8} {k : Int} (h : frmW s = some k) : isFrm k ∧ frmN k = s := by
  unfold frmW at h
  have h1 := List.find?_some h
  have h2 := List.mem_of_find?_eq_some h
  simp at h1 h2
  exact ⟨h2, h1⟩
theorem shpW_none {s : List UInt8} (h : shpW s = none) {k : Int} (hk : isShp k) : shpN k ≠ s := by
  unfold shpW at h
  rw [List.find?_eq_none] at h
  unfold isShp at hk
  have := h k (by simpa using hk)
  simpa using this
theorem frmW_none {s : List UInt8} (h : frmW s = none) {k : Int} (hk : isFrm k) : frmN k ≠ s := by
  unfold frmW at h
  rw [List.find?_eq_none] at h
  unfold isFrm at hk
  have := h k (by simpa using hk)
  simpa using this
theorem shpW_shpN {k : Int} (h : isShp k) : shpW (shpN k) = some k := by
  rcases h with rfl | rfl | rfl | rfl | rfl | rfl <;> rfl
theorem frmW_frmN {k : Int} (h : isFrm k) : frmW (frmN k) = some k ∧ shpW (frmN k) = none := by
  rcases h with rfl | rfl | rfl | rfl | rfl | rfl | rfl | rfl | rfl | rfl | rfl <;> exact ⟨rfl, rfl⟩
theorem offs_len (k : Int) : (offs k).length ≤ 3 := by unfold offs; split <;> (try split) <;> (try split) <;> (try split) <;> (try split) <;> simp
theorem frmK_le (k : Int) : frmK k ≤ 2 := by
  unfold frmK
  repeat' split
  all_goals omega

/-- An atom's numbers; the atom of a kind with numbers. -/
def numsP (p : Pr) : List Int := (offs p.k).map p.get
def putL : List Nat → List Int → Pr → Pr
  | i :: os, x :: l, p => putL os l (p.put i x)
  | _, _, p => p
def ofP (k : Int) (l : List Int) : Pr := putL (offs k) l ⟨k, 0, 0, 0⟩
/-- May an atom be? -/
def okP (p : Pr) : Prop := isShp p.k ∧ (∀ x ∈ numsP p, 0 ≤ x ∧ x ≤ 999999) ∧ p = ofP p.k (numsP p)
mutual
/-- May a formula be, of so much depth? -/
def okD : Nat → Fm → Prop
  | 0, _ => False
  | d + 1, .mk k p l => (k = 3 ∧ okP p ∧ l = [] ∨ isFrm k ∧ p = Pr.zero ∧ l.length = frmK k) ∧ okL d l
def okL : Nat → List Fm → Prop
  | _, [] => True
  | d, f :: l => okD d f ∧ okL d l
end
theorem okD_succ (d : Nat) (k : Int) (p : Pr) (l : List Fm) : okD (d + 1) (.mk k p l) ↔ (k = 3 ∧ okP p ∧ l = [] ∨ isFrm k ∧ p = Pr.zero ∧ l.length = frmK k) ∧ okL d l := by rw [okD]
theorem okD_zero (f : Fm) : ¬ okD 0 f := by cases f; rw [okD]; exact id
theorem okL_cons (d : Nat) (f : Fm) (l : List Fm) : okL d (f :: l) ↔ okD d f ∧ okL d l := by rw [okL]
theorem okL_nil (d : Nat) : okL d [] := by rw [okL]; trivial
theorem okL_mem {d : Nat} : ∀ {l : List Fm}, okL d l → ∀ f ∈ l, okD d f
  | [], _, f, hf => by simp at hf
  | g :: l, h, f, hf => by
    rw [okL_cons] at h
    rcases List.mem_cons.1 hf with rfl | hf
    · exact h.1
    · exact okL_mem h.2 f hf
theorem okL_of {d : Nat} : ∀ {l : List Fm}, (∀ f ∈ l, okD d f) → okL d l
  | [], _ => okL_nil d
  | g :: l, h => (okL_cons d g l).2 ⟨h g (by simp), okL_of fun f hf => h f (by simp [hf])⟩
theorem okD_up {d e : Nat} (hde : d ≤ e) : ∀ f, okD d f → okD e f := by
  induction d generalizing e with
  | zero => intro f h; exact absurd h (okD_zero f)
  | succ d ih =>
    intro f h
    obtain ⟨e, rfl⟩ : ∃ m, e = m + 1 := ⟨e - 1, by omega⟩
    obtain ⟨k, p, l⟩ := f
    rw [okD_succ] at h ⊢
    exact ⟨h.1, okL_of fun x hx => ih (by omega) x (okL_mem h.2 x hx)⟩

/-- What stands in brackets, with a sign between. -/
def sepL : List (List UInt8) → List UInt8
  | [] => [41]
  | x :: l => [44, 32] ++ x ++ sepL l
def brkL : List (List UInt8) → List UInt8
  | [] => []
  | x :: l => [40] ++ x ++ sepL l
def decL (n : Int) : List UInt8 := Lib.decDigits n.toNat
mutual
/-- A formula's text. -/
def txtF : Fm → List UInt8
  | .mk k p l => if k = 3 then shpN p.k ++ brkL ((numsP p).map decL) else frmN k ++ brkL (txtL l)
def txtL : List Fm → List (List UInt8)
  | [] => []
  | f :: l => txtF f :: txtL l
end
theorem txtF_eq (k : Int) (p : Pr) (l : List Fm) : txtF (.mk k p l) = if k = 3 then shpN p.k ++ brkL ((numsP p).map decL) else frmN k ++ brkL (l.map txtF) := by
  have h : ∀ l, txtL l = l.map txtF := by
    intro l
    induction l with
    | nil => rw [txtL]; rfl
    | cons x l ih => rw [txtL, ih]; rfl
  rw [txtF, h]

/-- The tokens of a text, but for their places. -/
abbrev Ky := Int × List UInt8 × Int
def sgnK (c : UInt8) : Ky := (3, [c], 0)
def numK (n : Int) : Ky := (2, decL n, n)
def wrdK (s : List UInt8) : Ky := (1, s, 0)
def sepK : List (List Ky) → List Ky
  | [] => [sgnK 41]
  | x :: l => sgnK 44 :: (x ++ sepK l)
def brkK : List (List Ky) → List Ky
  | [] => []
  | x :: l => sgnK 40 :: (x ++ sepK l)
mutual
def tokF : Fm → List Ky
  | .mk k p l => if k = 3 then wrdK (shpN p.k) :: brkK ((numsP p).map fun n => [numK n]) else wrdK (frmN k) :: brkK (tokL l)
def tokL : List Fm → List (List Ky)
  | [] => []
  | f :: l => tokF f :: tokL l
end
theorem tokF_eq (k : Int) (p : Pr) (l : List Fm) : tokF (.mk k p l) = if k = 3 then wrdK (shpN p.k) :: brkK ((numsP p).map fun n => [numK n]) else wrdK (frmN k) :: brkK (l.map tokF) := by
  have h : ∀ l, tokL l = l.map tokF := by
    intro l
    induction l with
    | nil => rw [tokL]; rfl
    | cons x l ih => rw [tokL, ih]; rfl
  rw [tokF, h]

/-- An error and its place, or what is taken. -/
inductive Rs (α : Type) where
  | ok (x : α)
  | bad (e : Int) (at_ : Nat)
def hdT (L : List Tok) : Tok := L.headD ⟨0, [], 0, 0⟩
/-- Takes a text. -/
def needP (s : List UInt8) (L : List Tok) : Rs (List Tok) := if (hdT L).kind ≠ 0 ∧ (hdT L).text = s then .ok L.tail else .bad 21 (hdT L).place
/-- Takes so many numbers, a sign ahead of each. -/
def numsL : Nat → List UInt8 → List Tok → Rs (List Int × List Tok)
  | 0, _, L => .ok ([], L)
  | m + 1, s, L => match needP s L with
    | .bad e i => .bad e i
    | .ok L1 => if (hdT L1).kind = 2 then (match numsL m [44] L1.tail with
      | .bad e i => .bad e i
      | .ok (r, L2) => .ok ((hdT L1).n :: r, L2)) else .bad 21 (hdT L1).place
def shutP (m : Nat) (L : List Tok) : Rs (List Tok) := if m = 0 then .ok L else needP [41] L
/-- Takes so many parts. -/
def kidsL (p : Nat → List Tok → Rs (Fm × List Tok × Nat)) : Nat → List UInt8 → Nat → List Tok → Rs (List Fm × List Tok × Nat)
  | 0, _, c, L => .ok ([], L, c)
  | m + 1, s, c, L => match needP s L with
    | .bad e i => .bad e i
    | .ok L1 => match p c L1 with
      | .bad e i => .bad e i
      | .ok (f, L2, c2) => match kidsL p m [44] c2 L2 with
        | .bad e i => .bad e i
        | .ok (r, L3, c3) => .ok (f :: r, L3, c3)
/-- Takes a formula, within so much depth, behind so many others. -/
def parL : Nat → Nat → List Tok → Rs (Fm × List Tok × Nat)
  | 0, _, L => .bad 2 (hdT L).place
  | d + 1, c, L =>
    if 200 ≤ c then .bad 2 (hdT L).place else
    match shpW (hdT L).text with
    | some k => (match numsL (offs k).length [40] L.tail with
      | .bad e i => .bad e i
      | .ok (r, L1) => match shutP (offs k).length L1 with
        | .bad e i => .bad e i
        | .ok L2 => .ok (.mk 3 (ofP k r) [], L2, c + 1))
    | none => (match frmW (hdT L).text with
      | some k => (match kidsL (parL d) (frmK k) [40] (c + 1) L.tail with
        | .bad e i => .bad e i
        | .ok (r, L1, c1) => match shutP (frmK k) L1 with
          | .bad e i => .bad e i
          | .ok L2 => .ok (.mk k Pr.zero r, L2, c1))
      | none => .bad 21 (hdT L).place)
/-- The formula of a text's tokens. -/
def parT (L : List Tok) : Rs Fm :=
  match parL 20 0 L with
  | .bad e i => .bad e i
  | .ok (f, L1, _) => if (hdT L1).kind = 0 then .ok f else .bad 21 (hdT L1).place
end Go.Proofs.YtogopcejapklgaaGreatDoor
namespace Go.Proofs.YtogopcejapklgaaGreatDoor

theorem Pr.eta (p : Pr) : p = ⟨p.k, p.t, p.a, p.n⟩ := by cases p; rfl
theorem three_of {l : List Int} (h : l.length ≤ 3) : l = [] ∨ (∃ x, l = [x]) ∨ (∃ x y, l = [x, y]) ∨ ∃ x y z, l = [x, y, z] := by
  match l, h with
  | [], _ => exact .inl rfl
  | [x], _ => exact .inr (.inl ⟨x, rfl⟩)
  | [x, y], _ => exact .inr (.inr (.inl ⟨x, y, rfl⟩))
  | [x, y, z], _ => exact .inr (.inr (.inr ⟨x, y, z, rfl⟩))
  | _ :: _ :: _ :: _ :: _, h => simp at h
theorem ofP_nums {k : Int} (hk : isShp k) {l : List Int} (hl : l.length = (offs k).length) : (ofP k l).k = k ∧ numsP (ofP k l) = l := by
  rcases hk with rfl | rfl | rfl | rfl | rfl | rfl
  · match l, hl with
    | [x, y], _ => exact ⟨rfl, rfl⟩
  · match l, hl with
    | [x, y, z], _ => exact ⟨rfl, rfl⟩
  · match l, hl with
    | [x, y], _ => exact ⟨rfl, rfl⟩
  · match l, hl with
    | [x], _ => exact ⟨rfl, rfl⟩
  · match l, hl with
    | [], _ => exact ⟨rfl, rfl⟩
  · match l, hl with
    | [x], _ => exact ⟨rfl, rfl⟩
theorem nums_len (p : Pr) : (numsP p).length = (offs p.k).length := by simp [numsP]
theorem okP_of {k : Int} (hk : isShp k) {l : List Int} (hl : l.length = (offs k).length) (hb : ∀ x ∈ l, 0 ≤ x ∧ x ≤ 999999) : okP (ofP k l) := by
  obtain ⟨h1, h2⟩ := ofP_nums hk hl
  refine ⟨by rw [h1]; exact hk, by rw [h2]; exact hb, by rw [h1, h2]⟩

theorem Fm.size_le {d : Nat} : ∀ f : Fm, okD d f → f.size + 1 ≤ 2 ^ d := by
  induction d with
  | zero => intro f h; exact absurd h (okD_zero f)
  | succ d ih =>
    intro f h
    obtain ⟨k, p, l⟩ := f
    rw [okD_succ] at h
    obtain ⟨h, hl⟩ := h
    have h2 : l.length ≤ 2 := by
      rcases h with ⟨-, -, rfl⟩ | ⟨-, -, h⟩
      · simp
      · rw [h]; exact frmK_le k
    rw [Fm.size_eq]
    have hp : 2 ^ (d + 1) = 2 ^ d + 2 ^ d := by rw [Nat.pow_succ]; omega
    have h1 : 1 ≤ 2 ^ d := Nat.one_le_two_pow
    match l, h2 with
    | [], _ => rw [Fm.sizeL_nil]; omega
    | [x], _ => have := ih x (okL_mem hl x (by simp)); rw [Fm.sizeL_cons, Fm.sizeL_nil]; omega
    | [x, y], _ => have := ih x (okL_mem hl x (by simp)); have := ih y (okL_mem hl y (by simp)); rw [Fm.sizeL_cons, Fm.sizeL_cons, Fm.sizeL_nil]; omega
    | _ :: _ :: _ :: _, h => simp at h

/-! What is taken. -/
/-- The numbers of tokens are small. -/
def Tn (L : List Tok) : Prop := ∀ t ∈ L, t.kind = 2 → 0 ≤ t.n ∧ t.n ≤ 999999
/-- The last one is the end. -/
def Ends (L : List Tok) : Prop := ∃ M e, L = M ++ [e] ∧ e.kind = 0 ∧ e.text = []
theorem Ends.tail {t : Tok} {L : List Tok} (h : Ends (t :: L)) (ht : t.kind ≠ 0 ∨ t.text ≠ []) : Ends L := by
  obtain ⟨M, e, he, h0, h1⟩ := h
  cases M with
  | nil =>
    simp at he
    obtain ⟨rfl, -⟩ := he
    rcases ht with ht | ht
    · exact absurd h0 ht
    · exact absurd h1 ht
  | cons m M =>
    simp at he
    exact ⟨M, e, he.2, h0, h1⟩
theorem Ends.cons_ {L : List Tok} (h : Ends L) : ∃ t M, L = t :: M := by
  obtain ⟨M, e, rfl, -⟩ := h
  cases M with
  | nil => exact ⟨e, [], rfl⟩
  | cons m M => exact ⟨m, M ++ [e], rfl⟩
/-- What is left of tokens: some of the last ones. -/
structure Lft (L L' : List Tok) : Prop where
  ends : Ends L'
  suf : L' <:+ L
theorem Lft.tail {L L' : List Tok} (h : Lft L L') (ht : (hdT L').kind ≠ 0 ∨ (hdT L').text ≠ []) : Lft L L'.tail := by
  obtain ⟨t, M, rfl⟩ := h.ends.cons_
  exact ⟨h.ends.tail ht, (List.suffix_cons t M).trans h.suf⟩
theorem Lft.tn {L L' : List Tok} (h : Lft L L') (ht : Tn L) : Tn L' := fun t m => ht t (h.suf.subset m)
theorem Lft.hd {L L' : List Tok} (h : Lft L L') : hdT L' ∈ L := by
  obtain ⟨t, M, rfl⟩ := h.ends.cons_
  exact h.suf.subset (by simp [hdT])
theorem Lft.trans {L L' L2 : List Tok} (h : Lft L L') (h2 : Lft L' L2) : Lft L L2 := ⟨h2.ends, h2.suf.trans h.suf⟩
/-- Where an error lies. -/
def Bad (L : List Tok) (e : Int) (i : Nat) : Prop := (e = 2 ∨ e = 21) ∧ ∃ L', Lft L L' ∧ (hdT L').place = i
theorem Bad.of {L L' : List Tok} {e : Int} {i : Nat} (h : Lft L L') (hb : Bad L' e i) : Bad L e i := by
  obtain ⟨he, L2, h2, h3⟩ := hb
  exact ⟨he, L2, h.trans h2, h3⟩
theorem Lft.refl {L : List Tok} (h : Ends L) : Lft L L := ⟨h, List.suffix_refl _⟩

theorem needP_ok {s : List UInt8} {L L1 : List Tok} (hE : Ends L) (h : needP s L = .ok L1) : (hdT L).kind ≠ 0 ∧ (hdT L).text = s ∧ L1 = L.tail ∧ Lft L L1 := by
  unfold needP at h
  by_cases hc : (hdT L).kind ≠ 0 ∧ (hdT L).text = s
  · rw [if_pos hc] at h
    cases h
    exact ⟨hc.1, hc.2, rfl, (Lft.refl hE).tail (.inl hc.1)⟩
  · rw [if_neg hc] at h
    cases h
theorem needP_bad {s : List UInt8} {L : List Tok} {e : Int} {i : Nat} (hE : Ends L) (h : needP s L = .bad e i) : e = 21 ∧ i = (hdT L).place ∧ Bad L e i := by
  unfold needP at h
  by_cases hc : (hdT L).kind ≠ 0 ∧ (hdT L).text = s
  · rw [if_pos hc] at h; cases h
  · rw [if_neg hc] at h
    cases h
    exact ⟨rfl, rfl, .inr rfl, L, Lft.refl hE, rfl⟩
theorem numsL_spec : ∀ (m : Nat) (s : List UInt8) (L : List Tok), Ends L → Tn L →
    (∀ r L', numsL m s L = .ok (r, L') → Lft L L' ∧ r.length = m ∧ ∀ x ∈ r, 0 ≤ x ∧ x ≤ 999999) ∧ (∀ e i, numsL m s L = .bad e i → Bad L e i)
  | 0, s, L, hE, _ => by
    simp only [numsL]
    exact ⟨fun r L' h => by cases h; exact ⟨Lft.refl hE, rfl, by simp⟩, fun e i h => by cases h⟩
  | m + 1, s, L, hE, hT => by
    simp only [numsL]
    cases hn : needP s L with
    | bad e i => exact ⟨fun r L' h => by simp at h, fun e i h => by cases h; exact (needP_bad hE hn).2.2⟩
    | ok L1 =>
      obtain ⟨-, -, -, h1⟩ := needP_ok hE hn
      simp only []
      by_cases hk : (hdT L1).kind = 2
      · rw [if_pos hk]
        have h2 := h1.tail (.inl (by rw [hk]; decide))
        obtain ⟨p1, p2⟩ := numsL_spec m [44] L1.tail h2.ends (h2.tn hT)
        have hb := hT _ h1.hd hk
        cases hr : numsL m [44] L1.tail with
        | bad e i =>
          simp only []
          exact ⟨fun r L' h => (by cases h), fun e i h => by cases h; exact .of h2 (p2 _ _ hr)⟩
        | ok x =>
          obtain ⟨r0, L0⟩ := x
          simp only []
          refine ⟨fun r L' h => ?_, fun e i h => by cases h⟩
          cases h
          obtain ⟨q1, q2, q3⟩ := p1 _ _ hr
          refine ⟨h2.trans q1, by simp [q2], fun x hx => ?_⟩
          rcases List.mem_cons.1 hx with rfl | hx
          · exact hb
          · exact q3 x hx
      · rw [if_neg hk]
        exact ⟨fun r L' h => (by cases h), fun e i h => by cases h; exact .of h1 ⟨.inr rfl, L1, Lft.refl h1.ends, rfl⟩⟩
theorem shutP_spec {m : Nat} {L : List Tok} (hE : Ends L) : (∀ L', shutP m L = .ok L' → Lft L L') ∧ (∀ e i, shutP m L = .bad e i → Bad L e i) := by
  unfold shutP
  by_cases h0 : m = 0
  · rw [if_pos h0]
    exact ⟨fun L' h => by cases h; exact Lft.refl hE, fun e i h => by cases h⟩
  · rw [if_neg h0]
    exact ⟨fun L' h => (needP_ok hE h).2.2.2, fun e i h => (needP_bad hE h).2.2⟩

/-- What is known of what takes a formula. -/
def ParS (d : Nat) (p : Nat → List Tok → Rs (Fm × List Tok × Nat)) : Prop := ∀ c L, Ends L → Tn L →
  (∀ f L' c', p c L = .ok (f, L', c') → Lft L L' ∧ okD d f ∧ c' = c + f.size ∧ c' ≤ 200) ∧ (∀ e i, p c L = .bad e i → Bad L e i)
theorem kidsL_spec {d : Nat} {p : Nat → List Tok → Rs (Fm × List Tok × Nat)} (hp : ParS d p) : ∀ (m : Nat) (s : List UInt8) (c : Nat) (L : List Tok), Ends L → Tn L → c ≤ 200 →
    (∀ r L' c', kidsL p m s c L = .ok (r, L', c') → Lft L L' ∧ r.length = m ∧ okL d r ∧ c' = c + Fm.sizeL r ∧ c' ≤ 200) ∧ (∀ e i, kidsL p m s c L = .bad e i → Bad L e i)
  | 0, s, c, L, hE, _, hc => by
    simp only [kidsL]
    exact ⟨fun r L' c' h => by cases h; exact ⟨Lft.refl hE, rfl, okL_nil d, by rw [Fm.sizeL_nil]; omega, hc⟩, fun e i h => by cases h⟩
  | m + 1, s, c, L, hE, hT, hc => by
    simp only [kidsL]
    cases hn : needP s L with
    | bad e i => exact ⟨fun r L' c' h => by simp at h, fun e i h => by cases h; exact (needP_bad hE hn).2.2⟩
    | ok L1 =>
      obtain ⟨-, -, -, h1⟩ := needP_ok hE hn
      obtain ⟨g1, g2⟩ := hp c L1 h1.ends (h1.tn hT)
      simp only []
      cases hf : p c L1 with
      | bad e i =>
        simp only []
        exact ⟨fun r L' c' h => (by cases h), fun e i h => by cases h; exact .of h1 (g2 _ _ hf)⟩
      | ok x =>
        obtain ⟨f, L2, c2⟩ := x
        obtain ⟨a1, a2, a3, a4⟩ := g1 _ _ _ hf
        have h2 := h1.trans a1
        obtain ⟨p1, p2⟩ := kidsL_spec hp m [44] c2 L2 h2.ends (h2.tn hT) a4
        simp only []
        cases hr : kidsL p m [44] c2 L2 with
        | bad e i =>
          simp only []
          exact ⟨fun r L' c' h => (by cases h), fun e i h => by cases h; exact .of h2 (p2 _ _ hr)⟩
        | ok x =>
          obtain ⟨r0, L0, c0⟩ := x
          simp only []
          refine ⟨fun r L' c' h => ?_, fun e i h => by cases h⟩
          cases h
          obtain ⟨q1, q2, q3, q4, q5⟩ := p1 _ _ _ hr
          exact ⟨h2.trans q1, by simp [q2], (okL_cons _ _ _).2 ⟨a2, q3⟩, by rw [Fm.sizeL_cons, q4, a3]; omega, q5⟩
theorem text_ne {s : List UInt8} {k : Int} (h : shpW s = some k) : s ≠ [] := by rintro rfl; cases h
theorem text_ne' {s : List UInt8} {k : Int} (h : frmW s = some k) : s ≠ [] := by rintro rfl; cases h
theorem parL_spec : ∀ d, ParS d (parL d)
  | 0 => fun c L hE _ => by
    simp only [parL]
    exact ⟨fun f L' c' h => (by cases h), fun e i h => by cases h; exact ⟨.inl rfl, L, Lft.refl hE, rfl⟩⟩
  | d + 1 => fun c L hE hT => by
    simp only [parL]
    by_cases hc : 200 ≤ c
    · rw [if_pos hc]
      exact ⟨fun f L' c' h => (by cases h), fun e i h => by cases h; exact ⟨.inl rfl, L, Lft.refl hE, rfl⟩⟩
    rw [if_neg hc]
    cases hs : shpW (hdT L).text with
    | some k =>
      obtain ⟨hk, -⟩ := shpW_some hs
      have h1 := (Lft.refl hE).tail (.inr (text_ne hs))
      obtain ⟨p1, p2⟩ := numsL_spec (offs k).length [40] L.tail h1.ends (h1.tn hT)
      simp only []
      cases hr : numsL (offs k).length [40] L.tail with
      | bad e i =>
        simp only []
        exact ⟨fun f L' c' h => (by cases h), fun e i h => by cases h; exact .of h1 (p2 _ _ hr)⟩
      | ok x =>
        obtain ⟨r, L1⟩ := x
        obtain ⟨a1, a2, a3⟩ := p1 _ _ hr
        have h2 := h1.trans a1
        obtain ⟨q1, q2⟩ := shutP_spec (m := (offs k).length) h2.ends
        simp only []
        cases hz : shutP (offs k).length L1 with
        | bad e i =>
          simp only []
          exact ⟨fun f L' c' h => (by cases h), fun e i h => by cases h; exact .of h2 (q2 _ _ hz)⟩
        | ok L2 =>
          simp only []
          refine ⟨fun f L' c' h => ?_, fun e i h => by cases h⟩
          cases h
          refine ⟨h2.trans (q1 _ hz), (okD_succ _ _ _ _).2 ⟨.inl ⟨rfl, okP_of hk a2 a3, rfl⟩, okL_nil d⟩, by rw [Fm.size_eq, Fm.sizeL_nil], by omega⟩
    | none =>
      simp only []
      cases hs2 : frmW (hdT L).text with
      | none =>
        simp only []
        exact ⟨fun f L' c' h => (by cases h), fun e i h => by cases h; exact ⟨.inr rfl, L, Lft.refl hE, rfl⟩⟩
      | some k =>
        obtain ⟨hk, -⟩ := frmW_some hs2
        have h1 := (Lft.refl hE).tail (.inr (text_ne' hs2))
        obtain ⟨p1, p2⟩ := kidsL_spec (parL_spec d) (frmK k) [40] (c + 1) L.tail h1.ends (h1.tn hT) (by omega)
        simp only []
        cases hr : kidsL (parL d) (frmK k) [40] (c + 1) L.tail with
        | bad e i =>
          simp only []
          exact ⟨fun f L' c' h => (by cases h), fun e i h => by cases h; exact .of h1 (p2 _ _ hr)⟩
        | ok x =>
          obtain ⟨r, L1, c1⟩ := x
          obtain ⟨a1, a2, a3, a4, a5⟩ := p1 _ _ _ hr
          have h2 := h1.trans a1
          obtain ⟨q1, q2⟩ := shutP_spec (m := frmK k) h2.ends
          simp only []
          cases hz : shutP (frmK k) L1 with
          | bad e i =>
            simp only []
            exact ⟨fun f L' c' h => (by cases h), fun e i h => by cases h; exact .of h2 (q2 _ _ hz)⟩
          | ok L2 =>
            simp only []
            refine ⟨fun f L' c' h => ?_, fun e i h => by cases h⟩
            cases h
            refine ⟨h2.trans (q1 _ hz), (okD_succ _ _ _ _).2 ⟨.inr ⟨hk, rfl, a2⟩, a3⟩, by rw [Fm.size_eq, a4]; omega, a5⟩

/-! A right formula's tokens are parsed to it. -/
theorem hdT_key {L : List Tok} {y : Ky} {R : List Ky} (h : L.map key = y :: R) : (hdT L).kind = y.1 ∧ (hdT L).text = y.2.1 ∧ (hdT L).n = y.2.2 ∧ L.tail.map key = R := by
  cases L with
  | nil => simp at h
  | cons t L =>
    simp at h
    obtain ⟨rfl, h⟩ := h
    exact ⟨rfl, rfl, rfl, h⟩
theorem needP_key {L : List Tok} {c : UInt8} {R : List Ky} (h : L.map key = sgnK c :: R) : needP [c] L = .ok L.tail ∧ L.tail.map key = R := by
  obtain ⟨h1, h2, -, h4⟩ := hdT_key h
  unfold needP
  rw [if_pos ⟨by rw [h1]; simp [sgnK], h2⟩]
  exact ⟨rfl, h4⟩
theorem numsL_key {R : List Ky} : ∀ (l : List Int) (c : UInt8) (L : List Tok), (∀ K : List Ky, K = (match l with | [] => [] | x :: l => sgnK c :: ([numK x] ++ (l.flatMap fun y => sgnK 44 :: [numK y]))) ++ R → L.map key = K) →
    ∃ L', numsL l.length [c] L = .ok (l, L') ∧ L'.map key = R
  | [], c, L, h => ⟨L, rfl, h _ rfl⟩
  | x :: l, c, L, h => by
    have h := h _ rfl
    simp only [List.cons_append, List.nil_append] at h
    obtain ⟨h1, h2⟩ := needP_key h
    obtain ⟨g1, -, g3, g4⟩ := hdT_key h2
    obtain ⟨L', e1, e2⟩ := numsL_key (R := R) l 44 L.tail.tail (fun K hK => by
      rw [g4, hK]
      cases l with
      | nil => rfl
      | cons y l => simp)
    refine ⟨L', ?_, e2⟩
    simp only [List.length_cons, numsL, h1]
    rw [if_pos (show (hdT L.tail).kind = 2 from g1), e1]
    simp only [g3]
    rfl
theorem kidsL_key {p : Nat → List Tok → Rs (Fm × List Tok × Nat)} {R : List Ky} : ∀ (l : List Fm) (c : UInt8) (n : Nat) (L : List Tok), n + Fm.sizeL l ≤ 200 →
    (∀ f ∈ l, ∀ n L R, n + f.size ≤ 200 → L.map key = tokF f ++ R → ∃ L', p n L = .ok (f, L', n + f.size) ∧ L'.map key = R) →
    (∀ K : List Ky, K = (match l with | [] => [] | x :: l => sgnK c :: (tokF x ++ (l.flatMap fun y => sgnK 44 :: tokF y))) ++ R → L.map key = K) →
    ∃ L', kidsL p l.length [c] n L = .ok (l, L', n + Fm.sizeL l) ∧ L'.map key = R
  | [], c, n, L, _, _, h => ⟨L, by simp only [List.length_nil, kidsL, Fm.sizeL_nil]; rfl, h _ rfl⟩
  | x :: l, c, n, L, hn, hp, h => by
    have h := h _ rfl
    simp only [List.cons_append, List.append_assoc] at h
    rw [Fm.sizeL_cons] at hn
    obtain ⟨h1, h2⟩ := needP_key h
    obtain ⟨L1, g1, g2⟩ := hp x (by simp) n L.tail _ (by omega) h2
    obtain ⟨L', e1, e2⟩ := kidsL_key (p := p) (R := R) l 44 (n + x.size) L1 (by omega) (fun f hf => hp f (by simp [hf])) (fun K hK => by
      rw [g2, hK]
      cases l with
      | nil => rfl
      | cons y l => simp)
    refine ⟨L', ?_, e2⟩
    simp only [List.length_cons, kidsL, h1, g1, e1, Fm.sizeL_cons]
    rw [Nat.add_assoc]
theorem sepK_flat (l : List (List Ky)) : sepK l = (l.flatMap fun x => sgnK 44 :: x) ++ [sgnK 41] := by
  induction l with
  | nil => rfl
  | cons x l ih => rw [sepK, ih]; simp
theorem brkK_flat (x : List Ky) (l : List (List Ky)) : brkK (x :: l) = sgnK 40 :: (x ++ (l.flatMap fun x => sgnK 44 :: x)) ++ [sgnK 41] := by
  rw [brkK, sepK_flat]; simp
theorem shutP_key {m : Nat} {L : List Tok} {R : List Ky} (hm : m ≠ 0) (h : L.map key = sgnK 41 :: R) : ∃ L', shutP m L = .ok L' ∧ L'.map key = R := by
  unfold shutP
  rw [if_neg hm]
  obtain ⟨h1, h2⟩ := needP_key h
  exact ⟨_, h1, h2⟩

theorem parL_back {d : Nat} : ∀ f, okD d f → ∀ c L R, c + f.size ≤ 200 → L.map key = tokF f ++ R → ∃ L', parL d c L = .ok (f, L', c + f.size) ∧ L'.map key = R := by
  induction d with
  | zero => intro f h; exact absurd h (okD_zero f)
  | succ d ih =>
    intro f h c L R hc hL
    obtain ⟨k, p, l⟩ := f
    rw [okD_succ] at h
    obtain ⟨h, hl⟩ := h
    rw [Fm.size_eq] at hc ⊢
    rw [tokF_eq] at hL
    simp only [parL]
    rw [if_neg (by omega)]
    rcases h with ⟨rfl, hP, rfl⟩ | ⟨hk, rfl, hn⟩
    · rw [if_pos rfl, List.cons_append] at hL
      obtain ⟨-, h2, -, h4⟩ := hdT_key hL
      rw [h2]
      simp only [wrdK]
      rw [shpW_shpN hP.1]
      simp only []
      have hnl := nums_len p
      have hof := hP.2.2
      generalize hms : numsP p = ms at *
      have hnk : ∃ L1, numsL (offs p.k).length [40] L.tail = .ok (ms, L1) ∧ L1.map key = (if ms = [] then R else sgnK 41 :: R) := by
        rw [← hnl]
        refine numsL_key ms 40 L.tail fun K hK => ?_
        rw [h4, hK]
        cases ms with
        | nil => rfl
        | cons x ms =>
          rw [List.map_cons, brkK_flat]
          simp [List.flatMap_map]
      obtain ⟨L1, e1, e2⟩ := hnk
      rw [e1]
      simp only []
      rw [Fm.sizeL_nil]
      cases ms with
      | nil =>
        rw [← hnl, ← hof]
        exact ⟨L1, rfl, e2⟩
      | cons x ms =>
        rw [if_neg (by simp)] at e2
        obtain ⟨L2, g1, g2⟩ := shutP_key (m := (offs p.k).length) (by rw [← hnl]; simp) e2
        rw [g1, ← hof]
        exact ⟨L2, rfl, g2⟩
    · have h3 : ¬ k = 3 := by rcases hk with rfl | rfl | rfl | rfl | rfl | rfl | rfl | rfl | rfl | rfl | rfl <;> decide
      rw [if_neg h3, List.cons_append] at hL
      obtain ⟨-, h2, -, h4⟩ := hdT_key hL
      rw [h2]
      simp only [wrdK]
      rw [(frmW_frmN hk).2, (frmW_frmN hk).1]
      simp only []
      have hkk : ∃ L1, kidsL (parL d) (frmK k) [40] (c + 1) L.tail = .ok (l, L1, c + 1 + Fm.sizeL l) ∧ L1.map key = (if l = [] then R else sgnK 41 :: R) := by
        rw [← hn]
        refine kidsL_key l 40 (c + 1) L.tail (by omega) (fun f hf n L R hn hL => ih f (okL_mem hl f hf) n L R hn hL) fun K hK => ?_
        rw [h4, hK]
        cases l with
        | nil => rfl
        | cons x l =>
          rw [List.map_cons, brkK_flat]
          simp [List.flatMap_map]
      obtain ⟨L1, e1, e2⟩ := hkk
      rw [e1]
      simp only []
      cases l with
      | nil =>
        rw [← hn]
        exact ⟨L1, by simp only [shutP, List.length_nil, if_true, Nat.add_assoc], e2⟩
      | cons x l =>
        rw [if_neg (by simp)] at e2
        obtain ⟨L2, g1, g2⟩ := shutP_key (m := frmK k) (by rw [← hn]; simp) e2
        rw [g1]
        exact ⟨L2, by simp only [Nat.add_assoc], g2⟩
theorem parT_back {f : Fm} (h : okD 20 f) (hs : f.size ≤ 200) {L : List Tok} (hL : L.map key = tokF f ++ [(0, [], 0)]) : parT L = .ok f := by
  obtain ⟨L', h1, h2⟩ := parL_back f h 0 L _ (by omega) hL
  unfold parT
  rw [h1]
  simp only []
  rw [if_pos (hdT_key h2).1]
theorem parT_spec {L : List Tok} (hE : Ends L) (hT : Tn L) : (∀ f, parT L = .ok f → okD 20 f ∧ f.size ≤ 200) ∧ (∀ e i, parT L = .bad e i → Bad L e i) := by
  obtain ⟨p1, p2⟩ := parL_spec 20 0 L hE hT
  unfold parT
  cases hr : parL 20 0 L with
  | bad e i =>
    simp only []
    exact ⟨fun f h => (by cases h), fun e i h => by cases h; exact p2 _ _ hr⟩
  | ok x =>
    obtain ⟨f, L1, c⟩ := x
    obtain ⟨a1, a2, a3, a4⟩ := p1 _ _ _ hr
    simp only []
    by_cases h0 : (hdT L1).kind = 0
    · rw [if_pos h0]
      exact ⟨fun f h => by cases h; exact ⟨a2, by omega⟩, fun e i h => by cases h⟩
    · rw [if_neg h0]
      exact ⟨fun f h => (by cases h), fun e i h => by cases h; exact .of a1 ⟨.inr rfl, L1, Lft.refl a1.ends, rfl⟩⟩
end Go.Proofs.YtogopcejapklgaaGreatDoor
namespace Go.Proofs.YtogopcejapklgaaGreatDoor

/-- The tokens of a text, but for their places. -/
def lexK (s : List UInt8) : Option (List Ky) := match (lexF (s.length + 1) s 0).2 with | none => some ((lexF (s.length + 1) s 0).1.map key) | some _ => none
theorem lexK_at (s : List UInt8) (f i : Nat) (h : s.length < f) : lexK s = match (lexF f s i).2 with | none => some ((lexF f s i).1.map key) | some _ => none := by
  unfold lexK
  rw [lexF_fuel (s.length + 1) f s 0 (by omega) h]
  obtain ⟨h1, h2⟩ := lexF_shift f s 0 i
  rw [h1]
  cases ha : (lexF f s 0).2 <;> cases hb : (lexF f s i).2 <;> rw [ha, hb] at h2 <;> simp at h2 ⊢
theorem lexK_nil : lexK [] = some [(0, [], 0)] := rfl
theorem lexK_blank {c : UInt8} {s : List UInt8} (hc : blankB c = true) : lexK (c :: s) = lexK s := by
  rw [lexK_at (c :: s) (s.length + 2) 0 (by simp), lexK_at s (s.length + 2) 1 (by omega)]
  simp only [lexF, runP_cons_pos hc, List.drop_succ_cons]
  rw [show 0 + (runP blankB s + 1) = 1 + runP blankB s from by omega]
theorem lexK_tok {c : UInt8} {s : List UInt8} {k : Int} {n : Nat} {v : Int} (h : headT (c :: s) = some (k, n, v)) : lexK (c :: s) = (lexK ((c :: s).drop n)).map fun l => (k, (c :: s).take n, v) :: l := by
  have hl := headT_len h
  have hb := headT_blank h
  have hlen : ((c :: s).drop n).length < s.length + 1 := by simp at hl ⊢; omega
  rw [lexK_at (c :: s) (s.length + 2) 0 (by simp), lexK_at ((c :: s).drop n) (s.length + 1) (0 + 0 + n) hlen]
  have hd : (c :: s).drop (runP blankB (c :: s)) = c :: s := by rw [runP_cons_neg hb]; rfl
  have e : lexF (s.length + 2) (c :: s) 0 = (⟨k, (c :: s).take n, v, 0 + 0⟩ :: (lexF (s.length + 1) ((c :: s).drop n) (0 + 0 + n)).1, (lexF (s.length + 1) ((c :: s).drop n) (0 + 0 + n)).2) := by
    rw [show s.length + 2 = (s.length + 1) + 1 from rfl]
    conv => lhs; unfold lexF
    simp only [hd, h]
    rw [runP_cons_neg hb]
  rw [e]
  generalize lexF (s.length + 1) ((c :: s).drop n) (0 + 0 + n) = y
  obtain ⟨a, b⟩ := y
  cases b <;> rfl

/-- No more of a word. -/
def Stop (R : List UInt8) : Prop := R = [] ∨ ∃ c r, R = c :: r ∧ partB c = false
theorem stop_nil : Stop [] := .inl rfl
theorem stop_cons {c : UInt8} {r : List UInt8} (h : partB c = false) : Stop (c :: r) := .inr ⟨c, r, rfl, h⟩
theorem runP_stop {p : UInt8 → Bool} {R : List UInt8} (hR : R = [] ∨ ∃ c r, R = c :: r ∧ p c = false) : ∀ w : List UInt8, (∀ c ∈ w, p c = true) → runP p (w ++ R) = w.length
  | [], _ => by
    rcases hR with rfl | ⟨c, r, rfl, h⟩
    · rfl
    · rw [List.nil_append, runP_cons_neg h]; rfl
  | c :: w, h => by
    rw [List.cons_append, runP_cons_pos (h c (by simp)), runP_stop hR w fun d hd => h d (by simp [hd])]
    rfl
theorem stop_digit {R : List UInt8} (h : Stop R) : R = [] ∨ ∃ c r, R = c :: r ∧ digitB c = false := by
  rcases h with rfl | ⟨c, r, rfl, h⟩
  · exact .inl rfl
  · refine .inr ⟨c, r, rfl, ?_⟩
    unfold partB at h
    simp at h
    exact h.2
theorem lexK_word {w R : List UInt8} (hw : w ≠ []) (hl : ∀ c ∈ w, letterB c = true) (hR : Stop R) : lexK (w ++ R) = (lexK R).map fun l => wrdK w :: l := by
  obtain ⟨c, m, rfl⟩ : ∃ c m, w = c :: m := by cases w with | nil => exact absurd rfl hw | cons c m => exact ⟨c, m, rfl⟩
  have hr := runP_stop hR (c :: m) fun d hd => part_of_letter (hl d hd)
  have hh : headT (c :: (m ++ R)) = some (1, (c :: m).length, 0) := by
    simp only [headT]
    rw [if_pos (hl c (by simp)), ← List.cons_append, hr]
  rw [List.cons_append, lexK_tok hh, ← List.cons_append, List.drop_left, List.take_left]
  rfl
theorem dec_digs : ∀ u : Nat, (∀ c ∈ Lib.decDigits u, digitB c = true) ∧ numN (Lib.decDigits u) = u ∧ Lib.decDigits u ≠ [] ∧ ∀ k, u < 10 ^ (k + 1) → (Lib.decDigits u).length ≤ k + 1 := by
  have hdg : ∀ i : Nat, i < 10 → digitB (UInt8.ofNat (48 + i)) = true ∧ (UInt8.ofNat (48 + i)).toNat - 48 = i := by
    intro i hi
    have : i = 0 ∨ i = 1 ∨ i = 2 ∨ i = 3 ∨ i = 4 ∨ i = 5 ∨ i = 6 ∨ i = 7 ∨ i = 8 ∨ i = 9 := by omega
    rcases this with rfl | rfl | rfl | rfl | rfl | rfl | rfl | rfl | rfl | rfl <;> exact ⟨rfl, rfl⟩
  intro u
  induction u using Nat.strongRecOn with
  | ind u ih =>
    rw [Lib.decDigits]
    by_cases h : u < 10
    · rw [dif_pos h]
      obtain ⟨h1, h2⟩ := hdg u h
      refine ⟨fun c hc => ?_, ?_, by simp, fun k _ => by simp⟩
      · obtain rfl : c = UInt8.ofNat (48 + u) := by simpa using hc
        exact h1
      · show 10 * 0 + ((UInt8.ofNat (48 + u)).toNat - 48) = u
        rw [h2]; omega
    · rw [dif_neg h]
      obtain ⟨h1, h2⟩ := hdg (u % 10) (by omega)
      obtain ⟨a1, a2, a3, a4⟩ := ih (u / 10) (by omega)
      refine ⟨fun c hc => ?_, ?_, by simp, fun k hk => ?_⟩
      · rcases List.mem_append.1 hc with hc | hc
        · exact a1 c hc
        · obtain rfl : c = UInt8.ofNat (48 + u % 10) := by simpa using hc
          exact h1
      · rw [numN_snoc, a2, h2]; omega
      · cases k with
        | zero => omega
        | succ k =>
          have : u / 10 < 10 ^ (k + 1) := by
            rw [Nat.pow_succ] at hk
            exact Nat.div_lt_of_lt_mul (by omega)
          have := a4 k this
          simp
          omega
theorem decL_spec {n : Int} (h0 : 0 ≤ n) (h1 : n ≤ 999999) : (decL n) ≠ [] ∧ (∀ c ∈ decL n, digitB c = true) ∧ (decL n).length ≤ 6 ∧ (1 < (decL n).length → (decL n).head? ≠ some 48) ∧ numLx (decL n) = n := by
  obtain ⟨m, rfl⟩ : ∃ m : Nat, n = m := ⟨n.toNat, by omega⟩
  unfold decL
  rw [Int.toNat_natCast]
  obtain ⟨a1, a2, a3, a4⟩ := dec_digs m
  refine ⟨a3, a1, a4 5 (by omega), fun hl h0 => dec_not _ hl h0 (by rw [a2]), by rw [numL_numN _ a1, a2]⟩
theorem lexK_num {n : Int} (h0 : 0 ≤ n) (h1 : n ≤ 999999) {R : List UInt8} (hR : Stop R) : lexK (decL n ++ R) = (lexK R).map fun l => numK n :: l := by
  obtain ⟨a1, a2, a3, a4, a5⟩ := decL_spec h0 h1
  have hk : numK n = (2, decL n, numLx (decL n)) := by rw [a5]; rfl
  rw [hk]
  generalize decL n = w at *
  obtain ⟨c, m, rfl⟩ : ∃ c m, w = c :: m := by cases w with | nil => exact absurd rfl a1 | cons c m => exact ⟨c, m, rfl⟩
  have hr := runP_stop (stop_digit hR) (c :: m) a2
  have hc := digit_bounds (a2 c (by simp))
  have hlet : ¬ letterB c = true := by unfold letterB; simp; omega
  have hh : headT (c :: (m ++ R)) = some (2, (c :: m).length, numLx (c :: m)) := by
    simp only [headT]
    rw [if_neg hlet, if_pos (a2 c (by simp)), ← List.cons_append, hr, List.take_left]
    rw [if_neg]
    rintro (h | ⟨h, rfl⟩)
    · omega
    · exact a4 h rfl
  rw [List.cons_append, lexK_tok hh, ← List.cons_append, List.drop_left, List.take_left]
theorem lexK_sign {c : UInt8} (hc : c = 40 ∨ c = 41 ∨ c = 44) (R : List UInt8) : lexK (c :: R) = (lexK R).map fun l => sgnK c :: l := by
  have h2 : two (c :: R) = false := by
    unfold two
    rcases hc with rfl | rfl | rfl <;> split <;> simp_all
  have hh : headT (c :: R) = some (3, 1, 0) := by
    simp only [headT]
    rcases hc with rfl | rfl | rfl
    · rw [if_neg (by decide), if_neg (by decide), if_neg (by rw [h2]; decide), if_pos (by decide)]
    · rw [if_neg (by decide), if_neg (by decide), if_neg (by rw [h2]; decide), if_pos (by decide)]
    · rw [if_neg (by decide), if_neg (by decide), if_neg (by rw [h2]; decide), if_pos (by decide)]
  rw [lexK_tok hh]
  rfl
/-- A text has these tokens, whatever stands behind it. -/
def Has (s : List UInt8) (t : List Ky) : Prop := ∀ R, Stop R → lexK (s ++ R) = (lexK R).map fun l => t ++ l
theorem has_sep {α : Type} (x : α → List UInt8) (t : α → List Ky) : ∀ l : List α, (∀ a ∈ l, Has (x a) (t a)) → Has (sepL (l.map x)) (sepK (l.map t)) ∧ (∃ c r, sepL (l.map x) = c :: r ∧ (c = 41 ∨ c = 44))
  | [], _ => ⟨fun R _ => by
      show lexK (41 :: R) = _
      rw [lexK_sign (by simp)]
      rfl, 41, [], rfl, .inl rfl⟩
  | a :: l, h => by
    obtain ⟨h1, c, r, h2, h3⟩ := has_sep x t l fun b hb => h b (by simp [hb])
    refine ⟨fun R hR => ?_, 44, _, rfl, .inr rfl⟩
    simp only [List.map_cons, sepL, sepK, List.cons_append, List.nil_append, List.append_assoc]
    rw [lexK_sign (by simp), lexK_blank (by decide), h a (by simp) _ (by rw [h2, List.cons_append]; exact stop_cons (by rcases h3 with rfl | rfl <;> decide)), h1 R hR]
    cases lexK R <;> simp
theorem has_brk {α : Type} (x : α → List UInt8) (t : α → List Ky) (l : List α) (h : ∀ a ∈ l, Has (x a) (t a)) : Has (brkL (l.map x)) (brkK (l.map t)) ∧ (brkL (l.map x) = [] ∨ ∃ r, brkL (l.map x) = 40 :: r) := by
  cases l with
  | nil => exact ⟨fun R _ => by show lexK R = _; cases lexK R <;> rfl, .inl rfl⟩
  | cons a l =>
    obtain ⟨h1, c, r, h2, h3⟩ := has_sep x t l fun b hb => h b (by simp [hb])
    refine ⟨fun R hR => ?_, .inr ⟨_, rfl⟩⟩
    simp only [List.map_cons, brkL, brkK, List.cons_append, List.nil_append, List.append_assoc]
    rw [lexK_sign (by simp), h a (by simp) _ (by rw [h2, List.cons_append]; exact stop_cons (by rcases h3 with rfl | rfl <;> decide)), h1 R hR]
    cases lexK R <;> simp
theorem shpN_spec {k : Int} (h : isShp k) : shpN k ≠ [] ∧ (∀ c ∈ shpN k, letterB c = true) ∧ (shpN k).length ≤ 5 := by
  rcases h with rfl | rfl | rfl | rfl | rfl | rfl <;> exact ⟨by decide, by decide, by decide⟩
theorem frmN_spec {k : Int} (h : isFrm k) : frmN k ≠ [] ∧ (∀ c ∈ frmN k, letterB c = true) ∧ (frmN k).length ≤ 7 := by
  rcases h with rfl | rfl | rfl | rfl | rfl | rfl | rfl | rfl | rfl | rfl | rfl <;> exact ⟨by decide, by decide, by decide⟩
theorem isFrm.ne {k : Int} (h : isFrm k) : ¬ k = 3 := by rcases h with rfl | rfl | rfl | rfl | rfl | rfl | rfl | rfl | rfl | rfl | rfl <;> decide
theorem has_head {w B : List UInt8} {K : List Ky} (h1 : w ≠ []) (h2 : ∀ c ∈ w, letterB c = true) (hB : Has B K) (hb : B = [] ∨ ∃ r, B = 40 :: r) : Has (w ++ B) (wrdK w :: K) := fun R hR => by
  have hs : Stop (B ++ R) := by
    rcases hb with rfl | ⟨r, rfl⟩
    · exact hR
    · exact stop_cons (by decide)
  rw [List.append_assoc, lexK_word h1 h2 hs, hB R hR]
  cases lexK R <;> rfl
theorem has_txt {d : Nat} : ∀ f, okD d f → Has (txtF f) (tokF f) := by
  induction d with
  | zero => intro f h; exact absurd h (okD_zero f)
  | succ d ih =>
    intro f h
    obtain ⟨k, p, l⟩ := f
    rw [okD_succ] at h
    obtain ⟨h, hl⟩ := h
    rw [txtF_eq, tokF_eq]
    rcases h with ⟨rfl, hP, rfl⟩ | ⟨hk, rfl, hn⟩
    · rw [if_pos rfl, if_pos rfl]
      obtain ⟨g1, g2, -⟩ := shpN_spec hP.1
      obtain ⟨q1, q2⟩ := has_brk decL (fun n => [numK n]) (numsP p) fun n hn R hR => by
        obtain ⟨b1, b2⟩ := hP.2.1 n hn
        rw [lexK_num b1 b2 hR]
        rfl
      exact has_head g1 g2 q1 q2
    · rw [if_neg hk.ne, if_neg hk.ne]
      obtain ⟨g1, g2, -⟩ := frmN_spec hk
      obtain ⟨q1, q2⟩ := has_brk txtF tokF l fun f hf => ih f (okL_mem hl f hf)
      exact has_head g1 g2 q1 q2
theorem lexK_txt {d : Nat} {f : Fm} (h : okD d f) : lexK (txtF f) = some (tokF f ++ [(0, [], 0)]) := by
  have := has_txt f h [] stop_nil
  rw [List.append_nil, lexK_nil] at this
  exact this

theorem sepL_len (l : List (List UInt8)) : (sepL l).length = 1 + (l.map fun x => x.length + 2).sum := by
  induction l with
  | nil => rfl
  | cons x l ih => rw [sepL]; simp [ih]; omega
theorem brkL_len (l : List (List UInt8)) : (brkL l).length ≤ (l.map fun x => x.length + 2).sum := by
  cases l with
  | nil => simp [brkL]
  | cons x l => rw [brkL]; simp [sepL_len]; omega
theorem txt_len {d : Nat} : ∀ f, okD d f → (txtF f).length + 2 ≤ 31 * f.size := by
  induction d with
  | zero => intro f h; exact absurd h (okD_zero f)
  | succ d ih =>
    intro f h
    obtain ⟨k, p, l⟩ := f
    rw [okD_succ] at h
    obtain ⟨h, hl⟩ := h
    rw [txtF_eq, Fm.size_eq]
    rcases h with ⟨rfl, hP, rfl⟩ | ⟨hk, rfl, hn⟩
    · rw [if_pos rfl, Fm.sizeL_nil]
      obtain ⟨-, -, g3⟩ := shpN_spec hP.1
      have h3 := offs_len p.k
      have hl := nums_len p
      have hb := brkL_len ((numsP p).map decL)
      have hs : (((numsP p).map decL).map fun x => x.length + 2).sum ≤ 8 * (numsP p).length := by
        have hq := hP.2.1
        generalize numsP p = ms at *
        clear hl hb
        induction ms with
        | nil => simp
        | cons x ms ihm =>
          have := (decL_spec (hq x (by simp)).1 (hq x (by simp)).2).2.2.1
          have := ihm fun y hy => hq y (by simp [hy])
          simp at this ⊢
          omega
      simp only [List.length_append]
      omega
    · rw [if_neg hk.ne]
      obtain ⟨-, -, g3⟩ := frmN_spec hk
      have hb := brkL_len (l.map txtF)
      have hs : ((l.map txtF).map fun x => x.length + 2).sum ≤ 31 * Fm.sizeL l := by
        clear hn hb
        induction l with
        | nil => simp
        | cons x l ihl =>
          rw [okL_cons] at hl
          have := ih x hl.1
          have := ihl hl.2
          rw [Fm.sizeL_cons]
          simp at this ⊢
          omega
      simp only [List.length_append]
      omega
theorem txt_le {f : Fm} (h : okD 20 f) (hs : f.size ≤ 200) : (txtF f).length ≤ 6200 := by have := txt_len f h; omega

/-- A text's own text is parsed to it, wherever its tokens lie. -/
theorem txt_back {f : Fm} (h : okD 20 f) (hs : f.size ≤ 200) {fu i : Nat} (hf : (txtF f).length < fu) : (lexF fu (txtF f) i).2 = none ∧ parT (lexF fu (txtF f) i).1 = .ok f := by
  have h1 := lexK_txt h
  rw [lexK_at _ fu i hf] at h1
  cases hx : (lexF fu (txtF f) i).2 with
  | some j => rw [hx] at h1; simp at h1
  | none =>
    rw [hx] at h1
    simp at h1
    exact ⟨rfl, parT_back h hs h1⟩
theorem txt_inj {f g : Fm} (hf : okD 20 f) (hfs : f.size ≤ 200) (hg : okD 20 g) (hgs : g.size ≤ 200) (h : txtF f = txtF g) : f = g := by
  have h1 := (txt_back hf hfs (fu := (txtF f).length + 1) (i := 0) (by omega)).2
  have h2 := (txt_back hg hgs (fu := (txtF g).length + 1) (i := 0) (by omega)).2
  rw [h, h2] at h1
  cases h1
  rfl

/-- Blanks between tokens. -/
theorem two_append' {c : UInt8} (hc : blankB c = true) (t : List UInt8) : ∀ l : List UInt8, l ≠ [] → two (l ++ c :: t) = two l
  | [], h => absurd rfl h
  | [d], _ => by
    have : c = 32 ∨ c = 10 := by simpa [blankB] using hc
    simp only [List.cons_append, List.nil_append]
    unfold two
    split
    · rename_i h; simp at h; rcases this with rfl | rfl <;> simp at h
    · rename_i h; simp at h; rcases this with rfl | rfl <;> simp at h
    · split <;> simp_all
  | d :: e :: l, _ => by
    simp only [List.cons_append]
    unfold two
    split <;> split <;> simp_all
theorem headT_append' {c : UInt8} (hc : blankB c = true) (t : List UInt8) (l : List UInt8) (hl : l ≠ []) : headT (l ++ c :: t) = headT l := by
  have hp : partB c = false := by
    have : c = 32 ∨ c = 10 := by simpa [blankB] using hc
    rcases this with rfl | rfl <;> decide
  have hd : digitB c = false := by
    have : c = 32 ∨ c = 10 := by simpa [blankB] using hc
    rcases this with rfl | rfl <;> decide
  cases l with
  | nil => exact absurd rfl hl
  | cons d l =>
    have e1 := runP_append_stop partB c t hp (d :: l)
    have e2 := runP_append_stop digitB c t hd (d :: l)
    have e3 := two_append' hc t (d :: l) (by simp)
    have e4 : ((d :: l) ++ c :: t).take (runP digitB (d :: l)) = (d :: l).take (runP digitB (d :: l)) := by
      rw [List.take_append_of_le_length (runP_le _ _)]
    rw [List.cons_append] at e1 e2 e3 e4 ⊢
    simp only [headT, e1, e2, e3, e4]
/-- Tokens' texts, a line feed and a blank ahead of each. -/
def joinN (ts : List Tok) : List UInt8 := ts.flatMap fun t => 10 :: 32 :: t.text
theorem joinN_cons (t : Tok) (ts : List Tok) : joinN (t :: ts) = 10 :: 32 :: (t.text ++ joinN ts) := by simp [joinN]
theorem joinN_lex {e : Tok} (he : e.kind = 0 ∧ e.text = [] ∧ e.n = 0) : ∀ ts : List Tok, (∀ t ∈ ts, Good t) → lexK (joinN (ts ++ [e])) = some ((ts ++ [e]).map key)
  | [], _ => by
    obtain ⟨h0, h1, h2⟩ := he
    simp only [List.nil_append, joinN_cons, h1]
    rw [lexK_blank (by decide), lexK_blank (by decide)]
    show lexK [] = _
    rw [lexK_nil]
    simp [key, h0, h1, h2]
  | t :: ts, hg => by
    have ih := joinN_lex he ts fun u hu => hg u (by simp [hu])
    have hgt : Good t := hg t (by simp)
    unfold Good at hgt
    have ht0 := headT_len hgt
    obtain ⟨c, m, hcm⟩ : ∃ c m, t.text = c :: m := by
      cases h : t.text with
      | nil => rw [h] at ht0; simp at ht0
      | cons c m => exact ⟨c, m, rfl⟩
    obtain ⟨r, hr⟩ : ∃ r, joinN (ts ++ [e]) = 10 :: r := by
      cases ts with
      | nil => exact ⟨_, by rw [List.nil_append, joinN_cons]⟩
      | cons t ts => exact ⟨_, by rw [List.cons_append, joinN_cons]⟩
    rw [List.cons_append, joinN_cons, lexK_blank (by decide), lexK_blank (by decide)]
    have hh : headT (t.text ++ joinN (ts ++ [e])) = some (t.kind, t.text.length, t.n) := by rw [hr, headT_append' (by decide) _ _ (by rw [hcm]; simp)]; exact hgt
    have hx : lexK (t.text ++ joinN (ts ++ [e])) = (lexK (joinN (ts ++ [e]))).map fun l => (t.kind, t.text, t.n) :: l := by
      have := hh
      rw [hcm, List.cons_append] at this
      have := lexK_tok this
      rw [← List.cons_append, ← hcm, List.drop_left, List.take_left] at this
      exact this
    rw [hx, ih]
    rfl
/-- Blanks make no difference. -/
theorem join_back {f : Fm} (h : okD 20 f) (hs : f.size ≤ 200) {fu i gu j : Nat} (hf : (txtF f).length < fu) (hg : (joinN (lexF fu (txtF f) i).1).length < gu) :
    (lexF gu (joinN (lexF fu (txtF f) i).1) j).2 = none ∧ parT (lexF gu (joinN (lexF fu (txtF f) i).1) j).1 = .ok f := by
  obtain ⟨h1, -⟩ := txt_back h hs (fu := fu) (i := i) hf
  obtain ⟨ts, e, h2, h3, h4, h5, h6, -⟩ := lexF_good fu (txtF f) i h1 hf
  have hk := lexK_txt h
  rw [lexK_at _ fu i hf, h1] at hk
  simp at hk
  have hj := joinN_lex ⟨h4, h5, h6⟩ ts h3
  rw [← h2, hk, lexK_at _ gu j hg] at hj
  cases hx : (lexF gu (joinN (lexF fu (txtF f) i).1) j).2 with
  | some j => rw [hx] at hj; simp at hj
  | none =>
    rw [hx] at hj
    simp at hj
    exact ⟨rfl, parT_back h hs hj⟩
end Go.Proofs.YtogopcejapklgaaGreatDoor
namespace Go.Proofs.YtogopcejapklgaaGreatDoor
def appR {α β : Type} (xs : List α) : Rs (List α × β) → Rs (List α × β)
  | .ok (r, L) => .ok (xs ++ r, L)
  | .bad e i => .bad e i
theorem appR_nil {α β : Type} (r : Rs (List α × β)) : appR [] r = r := by cases r with | ok x => rfl | bad e i => rfl
theorem appR_app {α β : Type} (xs ys : List α) (r : Rs (List α × β)) : appR xs (appR ys r) = appR (xs ++ ys) r := by
  cases r with
  | ok x => simp [appR]
  | bad e i => rfl
theorem appR_bad {α β : Type} (xs : List α) (e : Int) (i : Nat) : appR xs (.bad e i : Rs (List α × β)) = .bad e i := rfl
theorem numsL_need {m : Nat} {s : List UInt8} {L : List Tok} {e : Int} {i : Nat} (h : needP s L = .bad e i) : numsL (m + 1) s L = .bad e i := by simp only [numsL, h]
theorem numsL_kind {m : Nat} {s : List UInt8} {L L1 : List Tok} (h : needP s L = .ok L1) (hk : (hdT L1).kind ≠ 2) : numsL (m + 1) s L = .bad 21 (hdT L1).place := by
  simp only [numsL, h]
  rw [if_neg hk]
theorem numsL_step {m : Nat} {s : List UInt8} {L L1 : List Tok} (h : needP s L = .ok L1) (hk : (hdT L1).kind = 2) : numsL (m + 1) s L = appR [(hdT L1).n] (numsL m [44] L1.tail) := by
  simp only [numsL, h]
  rw [if_pos hk]
  cases numsL m [44] L1.tail with
  | ok x => rfl
  | bad e i => rfl
theorem kidsL_need {p : Nat → List Tok → Rs (Fm × List Tok × Nat)} {m c : Nat} {s : List UInt8} {L : List Tok} {e : Int} {i : Nat} (h : needP s L = .bad e i) : kidsL p (m + 1) s c L = .bad e i := by simp only [kidsL, h]
theorem kidsL_bad {p : Nat → List Tok → Rs (Fm × List Tok × Nat)} {m c : Nat} {s : List UInt8} {L L1 : List Tok} {e : Int} {i : Nat} (h : needP s L = .ok L1) (hp : p c L1 = .bad e i) : kidsL p (m + 1) s c L = .bad e i := by
  simp only [kidsL, h, hp]
theorem kidsL_step {p : Nat → List Tok → Rs (Fm × List Tok × Nat)} {m c c2 : Nat} {s : List UInt8} {L L1 L2 : List Tok} {f : Fm} (h : needP s L = .ok L1) (hp : p c L1 = .ok (f, L2, c2)) : kidsL p (m + 1) s c L = appR [f] (kidsL p m [44] c2 L2) := by
  simp only [kidsL, h, hp]
  cases kidsL p m [44] c2 L2 with
  | ok x => rfl
  | bad e i => rfl
/-- The sign ahead of the i-th one. -/
def sgnAt (i : Nat) : List UInt8 := if i = 0 then [40] else [44]
theorem sgnAt_succ (i : Nat) : sgnAt (i + 1) = [44] := rfl
theorem offs_at {k : Int} (hk : isShp k) {i : Nat} (hi : i < (offs k).length) : 1 ≤ (offs k)[i] ∧ (offs k)[i] ≤ 3 := by
  have h : ∀ o ∈ offs k, 1 ≤ o ∧ o ≤ 3 := by
    rcases hk with rfl | rfl | rfl | rfl | rfl | rfl <;> decide
  exact h _ (List.getElem_mem hi)
/-- The atom behind the first numbers. -/
def putN (k : Int) (l : List Int) : Pr := putL (offs k) l ⟨k, 0, 0, 0⟩
theorem putL_snoc : ∀ (os : List Nat) (l : List Int) (x : Int) (p : Pr) (h : l.length < os.length), putL os (l ++ [x]) p = (putL os l p).put os[l.length] x
  | [], l, x, p, h => by simp at h
  | o :: os, [], x, p, _ => by cases os <;> rfl
  | o :: os, y :: l, x, p, h => by
    simp only [List.cons_append, putL]
    rw [putL_snoc os l x (p.put o y) (by simpa using h)]
    rfl
theorem putN_snoc {k : Int} {l : List Int} {x : Int} (h : l.length < (offs k).length) : putN k (l ++ [x]) = (putN k l).put (offs k)[l.length] x := putL_snoc _ _ _ _ h
end Go.Proofs.YtogopcejapklgaaGreatDoor
namespace Go.Proofs.YtogopcejapklgaaGreatDoor

theorem good_num {t : Tok} (h : Good t) (hk : t.kind = 2) : 0 ≤ t.n ∧ t.n ≤ 999999 := by
  unfold Good at h
  rw [hk] at h
  obtain ⟨c, m, hcm⟩ : ∃ c m, t.text = c :: m := by
    cases hx : t.text with
    | nil => rw [hx] at h; simp [headT] at h
    | cons c m => exact ⟨c, m, rfl⟩
  rw [hcm] at h
  simp only [headT] at h
  by_cases h1 : letterB c = true
  · rw [if_pos h1] at h; simp at h
  · rw [if_neg h1] at h
    by_cases h2 : digitB c = true
    · rw [if_pos h2] at h
      by_cases h3 : 6 < runP digitB (c :: m) ∨ 1 < runP digitB (c :: m) ∧ c = 48
      · rw [if_pos h3] at h; cases h
      · rw [if_neg h3] at h
        simp only [Option.some.injEq, Prod.mk.injEq, true_and] at h
        obtain ⟨h4, h5⟩ := h
        have hd := run_digits (c :: m)
        have hlt := numN_lt ((c :: m).take (runP digitB (c :: m))) hd
        rw [numL_numN _ hd] at h5
        have hlen : ((c :: m).take (runP digitB (c :: m))).length ≤ 6 := by rw [List.length_take]; omega
        have : 10 ^ ((c :: m).take (runP digitB (c :: m))).length ≤ 10 ^ 6 := Nat.pow_le_pow_right (by omega) hlen
        omega
    · rw [if_neg h2] at h
      split at h
      · simp at h
      · split at h <;> simp at h
theorem lex_tokens {f : Nat} {l : List UInt8} {i : Nat} (h : (lexF f l i).2 = none) (hf : l.length < f) : Ends (lexF f l i).1 ∧ Tn (lexF f l i).1 := by
  obtain ⟨ts, e, h1, h2, h3, h4, -, -⟩ := lexF_good f l i h hf
  refine ⟨⟨ts, e, h1, h3, h4⟩, fun t ht hk => ?_⟩
  rw [h1] at ht
  rcases List.mem_append.1 ht with ht | ht
  · exact good_num (h2 t ht) hk
  · obtain rfl : t = e := by simpa using ht
    rw [h3] at hk
    cases hk
theorem lex_places : ∀ (f : Nat) (l : List UInt8) (i : Nat), l.length < f → (∀ t ∈ (lexF f l i).1, t.place ≤ i + l.length) ∧ ∀ j, (lexF f l i).2 = some j → j ≤ i + l.length
  | 0, _, _, h => by omega
  | f + 1, l, i, hf => by
    simp only [lexF]
    have hb := runP_le blankB l
    split
    · simp; omega
    · rename_i c m hm
      have hlen := congrArg List.length hm
      simp at hlen
      split
      · simp; omega
      · rename_i k n v hk
        have h1 := headT_len hk
        simp only [List.length_cons] at h1
        obtain ⟨p1, p2⟩ := lex_places f ((c :: m).drop n) (i + runP blankB l + n) (by simp; omega)
        simp only [List.length_drop, List.length_cons] at p1 p2
        refine ⟨fun t ht => ?_, fun j hj => ?_⟩
        · rcases List.mem_cons.1 ht with rfl | ht
          · show i + runP blankB l ≤ _; omega
          · have := p1 t ht; omega
        · have := p2 j hj; omega
theorem Bad.place {L : List Tok} {e : Int} {i n : Nat} (h : Bad L e i) (hp : ∀ t ∈ L, t.place ≤ n) : i ≤ n := by
  obtain ⟨-, L', h1, rfl⟩ := h
  exact hp _ h1.hd
end Go.Proofs.YtogopcejapklgaaGreatDoor
