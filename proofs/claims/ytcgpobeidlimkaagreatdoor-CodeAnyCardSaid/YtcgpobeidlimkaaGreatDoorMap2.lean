/- Maps from integers: 'v, is := m[k]'. No program in sight. -/
import Derived.Test.YtcgpobeidlimkaaGreatDoorMap
namespace Go.Proofs.YtcgpobeidlimkaaGreatDoor
open Go.RowKit Go.MapKept

/-- 'm[k]', and whether there is such an entry. -/
theorem run_look2_of {P : Program} {w : World} {b : Nat} {l : List (Int × Value)} {t k e : TypeId} {z : Value} (h : MapIs w b l) (ht : P.underlying t = some (.map k e)) (hk : P.underlying k = some (.int .i64)) (hz : (zeroValue e).run P w = .ok z w) (x : Int) :
    (Instr.lookup t (.map (some b)) (.int .i64 x) true).run P w = .ok (.tuple #[mget z x l, .bool (l.any fun p => p.1 == x)]) w := by
  obtain ⟨es, clock, hb, he⟩ := h
  unfold Instr.lookup
  have hkey : IsKey (.int .i64) (.int .i64 x) := rfl
  simp only [Sem.run_bind, run_underlying ht, Result.andThen, Go.MapKept.run_getObj_map hb, Sem.run_pure, Go.MapKept.run_checkKey hk hkey]
  rcases find_spec x z es.toList l 0 he with ⟨j, v, h1, h2, p, hp, hpx⟩ | ⟨h1, h2, h3⟩
  · rw [run_findKey hk h1]
    have : l.any (fun p => p.1 == x) = true := List.any_eq_true.2 ⟨p, hp, by simp [hpx]⟩
    simp [h2, this]
  · rw [run_findKey hk h1]
    have : l.any (fun p => p.1 == x) = false := List.any_eq_false.2 fun p hp => by simpa using h3 p hp
    simp [h2, hz, this]
theorem MapIs.alloc {w : World} {b : Nat} {l : List (Int × Value)} (h : MapIs w b l) (o : Obj) : MapIs (w.alloc o) b l := h.keep ((Below.refl _ _).alloc (Nat.le_refl _) _)
end Go.Proofs.YtcgpobeidlimkaaGreatDoor
