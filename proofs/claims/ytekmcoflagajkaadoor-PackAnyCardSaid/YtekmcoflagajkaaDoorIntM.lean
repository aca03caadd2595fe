/- Lists of numbers in memory. No program in sight. -/
import Derived.Test.YtekmcoflagajkaaDoorMem
namespace Go.Proofs.YtekmcoflagajkaaDoor
open Go.RowKit

/-- A list of numbers lies where a slice leads. -/
def IntIn (w : World) (S : Nat → Prop) (a : Option Addr) (n cap : Nat) (l : List Int) : Prop :=
  n = l.length ∧ Sl w S 1 a l.length cap (fun i => [.int .i64 (l[i]?.getD 0)])
namespace IntIn
variable {w w' : World} {S S' : Nat → Prop} {a : Option Addr} {n cap : Nat} {l : List Int}
theorem keep (h : IntIn w S a n cap l) (hk : ∀ b o, S b → w'.cell? ⟨b, o, none⟩ = w.cell? ⟨b, o, none⟩) : IntIn w' S a n cap l := ⟨h.1, h.2.keep hk⟩
theorem widen (h : IntIn w S a n cap l) (hS : ∀ b, S b → S' b) : IntIn w S' a n cap l := ⟨h.1, h.2.widen hS⟩
theorem at_ (h : IntIn w S a n cap l) (i : Nat) (hi : i < l.length) : ∃ b off, a = some ⟨b, off, none⟩ ∧ S b ∧ w.cell? ⟨b, off + i, none⟩ = some (.int .i64 l[i]) := by
  obtain ⟨b, off, rfl, hb, hc⟩ := h.2.at_ (by omega)
  refine ⟨b, off, rfl, hb, ?_⟩
  have := hc i hi 0 (by omega)
  simpa [hi] using this
theorem nil_ : IntIn w S none 0 0 [] := ⟨rfl, Sl.nil⟩
end IntIn
theorem Kp.ints {W0 w : World} (h : Kp W0 w) {a : Option Addr} {n cap : Nat} {l : List Int} (hx : IntIn W0 (In_ W0) a n cap l) : IntIn w (In_ w) a n cap l := (hx.keep fun b o hb => h.2 b o hb).widen (In_.mono h.1.size)

end Go.Proofs.YtekmcoflagajkaaDoor
