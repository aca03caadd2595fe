/- Buffers of stores in memory. No program in sight. -/
import Derived.Test.YtekmcoflagajkaaDoorMem
namespace Go.Proofs.YtekmcoflagajkaaDoor
open Go.RowKit

/-- The cells of one store. -/
def enC (x : Int × Int) : List Value := [.int .i64 x.1, .int .i64 x.2]

/-- A buffer lies where a slice leads. -/
def EnIn (w : World) (S : Nat → Prop) (a : Option Addr) (n cap : Nat) (l : List (Int × Int)) : Prop :=
  n = l.length ∧ Sl w S 2 a l.length cap (fun i => enC (l[i]?.getD (0, 0)))

namespace EnIn
variable {w w' : World} {S S' : Nat → Prop} {a : Option Addr} {n cap : Nat} {l : List (Int × Int)}
theorem keep (h : EnIn w S a n cap l) (hk : ∀ b o, S b → w'.cell? ⟨b, o, none⟩ = w.cell? ⟨b, o, none⟩) : EnIn w' S a n cap l := ⟨h.1, h.2.keep hk⟩
theorem widen (h : EnIn w S a n cap l) (hS : ∀ b, S b → S' b) : EnIn w S' a n cap l := ⟨h.1, h.2.widen hS⟩
theorem at_ (h : EnIn w S a n cap l) (i : Nat) (hi : i < l.length) : ∃ b off, a = some ⟨b, off, none⟩ ∧ S b ∧ w.cell? ⟨b, off + i * 2, none⟩ = some (.int .i64 l[i].1) ∧ w.cell? ⟨b, off + i * 2 + 1, none⟩ = some (.int .i64 l[i].2) := by
  obtain ⟨b, off, rfl, hb, hc⟩ := h.2.at_ (by omega)
  refine ⟨b, off, rfl, hb, ?_, ?_⟩
  · have := hc i hi 0 (by omega)
    simpa [enC, hi] using this
  · have := hc i hi 1 (by omega)
    simpa [enC, hi, Nat.add_assoc] using this
theorem nil_ : EnIn w S none 0 0 [] := ⟨rfl, Sl.nil⟩
/-- All cells, one behind the other. -/
theorem flat (h : EnIn w S a n cap l) : ∀ ad, a = some ad → ∀ j u, (l.flatMap enC)[j]? = some u → w.cell? (ad.add j) = some u := by
  intro ad had j u hu
  have hlen : (l.flatMap enC).length = l.length * 2 := by
    clear hu h
    induction l with
    | nil => rfl
    | cons x l ih => simp [enC, ih]; omega
  have hj : j < l.length * 2 := by
    rw [← hlen]
    exact (List.getElem?_eq_some_iff.1 hu).1
  have hi : j / 2 < l.length := by omega
  obtain ⟨b, off, hb, _, h0, h1⟩ := h.at_ (j / 2) hi
  rw [had] at hb
  obtain rfl : ad = ⟨b, off, none⟩ := by simpa using hb
  have key : ∀ (l : List (Int × Int)) (j : Nat) (hi : j / 2 < l.length), (l.flatMap enC)[j]? = some (if j % 2 = 0 then .int .i64 l[j / 2].1 else .int .i64 l[j / 2].2) := by
    intro l
    induction l with
    | nil => intro j hi; simp at hi
    | cons x l ih =>
      intro j hi
      match j with
      | 0 => simp [enC]
      | 1 => simp [enC]
      | j + 2 =>
        have e : (j + 2) / 2 = j / 2 + 1 := by omega
        have hi' : j / 2 < l.length := by simp at hi; omega
        have := ih j hi'
        simp only [List.flatMap_cons, enC, List.cons_append, List.nil_append, List.getElem?_cons_succ]
        rw [show l.flatMap enC = l.flatMap enC from rfl] at this
        rw [this]
        simp [e, Nat.add_mod_right]
  rw [key l j hi] at hu
  have hadd : (⟨b, off, none⟩ : Addr).add j = ⟨b, off + j, none⟩ := by
    unfold Addr.add
    split
    · rename_i h; subst h; rfl
    · rfl
  rw [hadd]
  by_cases hm : j % 2 = 0
  · rw [if_pos hm] at hu
    have e : off + j / 2 * 2 = off + j := by omega
    rw [e] at h0
    rw [h0]; exact hu
  · rw [if_neg hm] at hu
    have e : off + j / 2 * 2 + 1 = off + j := by omega
    rw [e] at h1
    rw [h1]; exact hu
theorem flat_length (l : List (Int × Int)) : (l.flatMap enC).length = l.length * 2 := by
  induction l with
  | nil => rfl
  | cons x l ih => simp [enC, ih]; omega
theorem flat_get : ∀ (l : List (Int × Int)) (i j : Nat), i < l.length → j < 2 → (l.flatMap enC)[i * 2 + j]? = (enC (l[i]?.getD (0, 0)))[j]?
  | [], i, _, hi, _ => by simp at hi
  | x :: l, 0, j, _, hj => by
    match j, hj with
    | 0, _ => simp [enC]
    | 1, _ => simp [enC]
  | x :: l, i + 1, j, hi, hj => by
    have ih := flat_get l i j (by simpa using hi) hj
    have e : (i + 1) * 2 + j = (i * 2 + j) + 2 := by omega
    rw [e]
    simp only [List.flatMap_cons, enC, List.cons_append, List.nil_append, List.getElem?_cons_succ]
    exact ih
/-- A row of the call's own that holds a buffer's cells is a buffer. -/
theorem of_own {base : Nat} {T : TypeId} {v : Value} (h : w.ownsRow base T 2 v l.length (l.flatMap enC)) : ∃ a cap, v = .slice a l.length cap ∧ EnIn w (fun b => base ≤ b ∧ b < w.heap.size) a l.length cap l := by
  have h' := h
  obtain ⟨_, h⟩ := h
  rcases h with ⟨rfl, h0⟩ | ⟨g, cap, cur, rfl, hb, hg, hle, hcm, hsz, htk⟩
  · refine ⟨none, 0, by rw [h0], ⟨rfl, by omega, Nat.zero_le _, fun hp => absurd hp (by omega)⟩⟩
  · refine ⟨some ⟨g, 0, none⟩, cap, rfl, rfl, hle, hcm, fun _ => ⟨g, 0, rfl, ⟨hb, (Array.getElem?_eq_some_iff.1 hg).1⟩, fun i hi j hj => ?_⟩⟩
    have hf := flat_get l i j hi hj
    cases hv : (enC (l[i]?.getD (0, 0)))[j]? with
    | none => simp [enC] at hv; omega
    | some u =>
      rw [hv] at hf
      have := h'.cells (g := g) rfl _ u hf
      have hadd : (⟨g, 0, none⟩ : Addr).add (i * 2 + j) = ⟨g, 0 + (i * 2 + j), none⟩ := by
        unfold Addr.add
        split
        · rename_i h; rw [h]
        · simp
      rwa [hadd] at this
end EnIn
theorem Kp.en {W0 w : World} (h : Kp W0 w) {a : Option Addr} {n cap : Nat} {l : List (Int × Int)} (hx : EnIn W0 (In_ W0) a n cap l) : EnIn w (In_ w) a n cap l := (hx.keep fun b o hb => h.2 b o hb).widen (In_.mono h.1.size)
theorem enC_one (l : List (Int × Int)) : ∀ u ∈ l.flatMap enC, u.oneCell' = true := by
  intro u hu
  obtain ⟨x, _, hx⟩ := List.mem_flatMap.1 hu
  simp [enC] at hx
  rcases hx with rfl | rfl <;> rfl
end Go.Proofs.YtekmcoflagajkaaDoor
