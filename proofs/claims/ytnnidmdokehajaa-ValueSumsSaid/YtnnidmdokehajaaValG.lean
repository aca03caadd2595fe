/- ValueSums, walked. -/
import Derived.Test.YtnnidmdokehajaaValGB
import Derived.Test.YtnnidmdokehajaaValGC
import Derived.Test.YtnnidmdokehajaaValGD
namespace Go.Proofs.Ytnnidmdokehajaa
open Go.RowKit

theorem valueSums_walk (a b dm : Int) (qa : 0 ≤ a ∧ a ≤ 255) (qb : 0 ≤ b ∧ b ≤ 255) (qd : 0 ≤ dm ∧ dm ≤ 255) (w : World) :
    Calls Try.prog 6 #[.int .u8 a, .int .u8 b, .int .u8 dm] w fun e w' => e = .returned (.bool true) ∧ Below w.heap.size w w' := by
  by_cases h1 : a % (2 + dm % 15) < b % (2 + dm % 15)
  · exact valueSums_lt a b dm _ _ _ qa qb qd rfl rfl rfl h1 w
  · by_cases h2 : a % (2 + dm % 15) = b % (2 + dm % 15)
    · exact valueSums_eq a b dm _ _ _ qa qb qd rfl rfl rfl h2 w
    · exact valueSums_gt a b dm _ _ _ qa qb qd rfl rfl rfl (by omega) w
end Go.Proofs.Ytnnidmdokehajaa
