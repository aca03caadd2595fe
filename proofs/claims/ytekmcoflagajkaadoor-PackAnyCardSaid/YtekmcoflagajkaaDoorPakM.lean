/- The bytes of states. No program in sight. -/
import Derived.Test.YtekmcoflagajkaaDoorStpM
namespace Go.Proofs.YtekmcoflagajkaaDoor

/-- byte(n) -/
def by8 (n : Int) : Int := n % 256
def bufB (l : List (Int × Int)) : List Int := l.flatMap fun e => [by8 e.1, by8 e.2]
def thrB (x : Thr) : List Int := [by8 (x.pc / 256), by8 x.pc] ++ [by8 x.r0, by8 x.r1, by8 x.r2, by8 x.r3] ++ [by8 x.buf.length] ++ bufB x.buf
/-- A state's bytes. -/
def packB (th : List Thr) (mem : List Int) (bad : Bool) : List Int := [if bad then 1 else 0] ++ mem.map by8 ++ th.flatMap thrB
theorem by8_eq (n : Int) : by8 n = n % 256 := rfl
theorem by8_mod (n : Int) : by8 (n % 256) = by8 n := by
  rw [by8_eq, by8_eq]
  omega
theorem bufB_snoc (l : List (Int × Int)) (k : Nat) (h : k < l.length) : bufB (l.take (k + 1)) = bufB (l.take k) ++ [by8 l[k].1, by8 l[k].2] := by
  unfold bufB
  rw [List.take_succ_eq_append_getElem h, List.flatMap_append]
  simp
theorem thrB_snoc (l : List Thr) (k : Nat) (h : k < l.length) : (l.take (k + 1)).flatMap thrB = (l.take k).flatMap thrB ++ thrB l[k] := by
  rw [List.take_succ_eq_append_getElem h, List.flatMap_append]
  simp
theorem map_snoc (l : List Int) (k : Nat) (h : k < l.length) : (l.take (k + 1)).map by8 = (l.take k).map by8 ++ [by8 l[k]] := by
  rw [List.take_succ_eq_append_getElem h, List.map_append]
  rfl
theorem bufB_len (l : List (Int × Int)) : (bufB l).length = 2 * l.length := by
  unfold bufB
  induction l with
  | nil => rfl
  | cons e l ih => simp only [List.flatMap_cons, List.length_append, List.length_cons, List.length_nil, ih]; omega
theorem packB_pos (th : List Thr) (mem : List Int) (bad : Bool) : 0 < (packB th mem bad).length := by
  unfold packB
  simp only [List.length_append, List.length_cons, List.length_nil]
  omega
theorem thrB_len (x : Thr) (h : x.buf.length ≤ 1000) : (thrB x).length ≤ 2007 := by
  unfold thrB
  simp only [List.length_append, List.length_cons, List.length_nil, bufB_len]
  omega
theorem flat_len (l : List Thr) (h : ∀ x ∈ l, x.buf.length ≤ 1000) : (l.flatMap thrB).length ≤ 2007 * l.length := by
  induction l with
  | nil => simp
  | cons x l ih =>
    have h1 := thrB_len x (h x (by simp))
    have h2 := ih fun y hy => h y (by simp [hy])
    simp only [List.flatMap_cons, List.length_append, List.length_cons]
    omega
end Go.Proofs.YtekmcoflagajkaaDoor
