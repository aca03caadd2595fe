/- Two arrays of four numbers are the same, or not. -/
import Derived.Test.YtekmcoflagajkaaGreatDoorRows
import Derived.Test.YtekmcoflagajkaaGreatDoorBunM
import Derived.ChangeKeysEq
import Derived.Laws.StructEq
namespace Go.Proofs.YtekmcoflagajkaaGreatDoor
open Go.RowKit

theorem arr_eq (a b c d a' b' c' d' : Int) (w : World) :
    (Op.equalIn 10000 61 (.agg #[.int .i64 a, .int .i64 b, .int .i64 c, .int .i64 d]) (.agg #[.int .i64 a', .int .i64 b', .int .i64 c', .int .i64 d'])).run Tryz.prog w = .ok (a == a' && (b == b' && (c == c' && d == d'))) w := by
  have h0 : ∀ (w : World) (x y z u : Value), (part 3 #[x, y, z, u] 0).run Tryz.prog w = .ok x w := fun _ _ _ _ _ => by kernel_rfl
  have h1 : ∀ (w : World) (x y z u : Value), (part 3 #[x, y, z, u] 1).run Tryz.prog w = .ok y w := fun _ _ _ _ _ => by kernel_rfl
  have h2 : ∀ (w : World) (x y z u : Value), (part 3 #[x, y, z, u] 2).run Tryz.prog w = .ok z w := fun _ _ _ _ _ => by kernel_rfl
  have h3 : ∀ (w : World) (x y z u : Value), (part 3 #[x, y, z, u] 3).run Tryz.prog w = .ok u w := fun _ _ _ _ _ => by kernel_rfl
  have hc : Tryz.prog.cellsOf 3 = 1 := by kernel_rfl
  have hi : ∃ i, Tryz.prog.info? 3 = some i := by
    have : (Tryz.prog.info? 3).isSome = true := by kernel_rfl
    exact Option.isSome_iff_exists.1 this
  obtain ⟨i, hi⟩ := hi
  rw [show (10000 : Nat) = 9999 + 1 from rfl, run_equalIn_array w 9999 _ _ Tryz.underlying61 hi, hc]
  have hr : List.range 4 = [0, 1, 2, 3] := rfl
  rw [hr]
  have he : ∀ (w : World) (x y : Int), (Op.equalIn 9999 3 (.int .i64 x) (.int .i64 y)).run Tryz.prog w = .ok (x == y) w := fun w x y => run_equalIn_int w 9998 _ _ _ _ _ Tryz.underlying3
  simp only [Op.eqItems, Sem.run_bind, Nat.mul_one, h0, he, Result.andThen_ok]
  cases ha : a == a' <;> cases hb : b == b' <;> cases hcc : c == c' <;> cases hx : d == d' <;> simp [*]
theorem arr_same (a b c d : Int) (w : World) :
    (Op.equalIn 10000 61 (.agg #[.int .i64 a, .int .i64 b, .int .i64 c, .int .i64 d]) (.agg #[.int .i64 a, .int .i64 b, .int .i64 c, .int .i64 d])).run Tryz.prog w = .ok true w := by
  rw [arr_eq]
  simp
end Go.Proofs.YtekmcoflagajkaaGreatDoor
