/- Bytes in memory. No program in sight. -/
import Derived.Test.YteomcjfnghbikaaDoorMem
namespace Go.Proofs.YteomcjfnghbikaaDoor
open Go.RowKit

def ByIn (w : World) (S : Nat → Prop) (a : Option Addr) (n cap : Nat) (cs : List Nat) : Prop :=
  n = cs.length ∧ (∀ c ∈ cs, c < 256) ∧ Sl w S 1 a cs.length cap (fun i => [.int .u8 ((cs[i]?.getD 0 : Nat) : Int)])
namespace ByIn
variable {w w' : World} {S S' : Nat → Prop} {a : Option Addr} {n cap : Nat} {cs : List Nat}
theorem keep (h : ByIn w S a n cap cs) (hk : ∀ b o, S b → w'.cell? ⟨b, o, none⟩ = w.cell? ⟨b, o, none⟩) : ByIn w' S a n cap cs := ⟨h.1, h.2.1, h.2.2.keep hk⟩
theorem widen (h : ByIn w S a n cap cs) (hS : ∀ b, S b → S' b) : ByIn w S' a n cap cs := ⟨h.1, h.2.1, h.2.2.widen hS⟩
theorem at_ (h : ByIn w S a n cap cs) (i : Nat) (hi : i < cs.length) : ∃ b off, a = some ⟨b, off, none⟩ ∧ S b ∧ w.cell? ⟨b, off + i, none⟩ = some (.int .u8 (cs[i] : Nat)) := by
  obtain ⟨b, off, rfl, hb, hc⟩ := h.2.2.at_ (by omega)
  refine ⟨b, off, rfl, hb, ?_⟩
  have := hc i hi 0 (by omega)
  simpa [hi] using this
end ByIn
theorem Kp.bytes {W0 w : World} (h : Kp W0 w) {a : Option Addr} {n cap : Nat} {cs : List Nat} (hx : ByIn W0 (In_ W0) a n cap cs) : ByIn w (In_ w) a n cap cs := (hx.keep fun b o hb => h.2 b o hb).widen (In_.mono h.1.size)
end Go.Proofs.YteomcjfnghbikaaDoor
