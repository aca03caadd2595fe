/- The waking program, and rows of one. No program in sight. -/
import Derived.Test.YtcgpobeidlimkaaGreatDoorCmp
import Derived.Test.YtcgpobeidlimkaaGreatDoorFwd
namespace Go.Proofs.YtcgpobeidlimkaaGreatDoor
open Go.RowKit

theorem one_str {w : World} {S : Nat → Prop} {b : Nat} {s : ByteArray} (hb : S b) (hc : w.cell? ⟨b, 0, none⟩ = some (.string s)) : VrIn w S (some ⟨b, 0, none⟩) 1 1 [s] := by
  refine ⟨rfl, ⟨Nat.le_refl _, by decide, fun _ => ⟨b, 0, rfl, hb, fun i hi j hj => ?_⟩⟩⟩
  obtain rfl : i = 0 := by simpa using hi
  obtain rfl : j = 0 := by omega
  simpa using hc
theorem one_st {w : World} {S : Nat → Prop} {b : Nat} {cs : List Value} {x : St} (hb : S b) (hc : ∀ j, j < 13 → w.cell? ⟨b, j, none⟩ = cs[j]?) (hx : StIn w S cs x) : StRow w S (some ⟨b, 0, none⟩) 1 1 [x] := by
  refine ⟨rfl, fun _ => cs, ⟨Nat.le_refl _, by decide, fun _ => ⟨b, 0, rfl, hb, fun i hi j hj => ?_⟩⟩, fun i hi => ?_⟩
  · obtain rfl : i = 0 := by simpa using hi
    simpa using hc j hj
  · obtain rfl : i = 0 := by simpa using hi
    exact hx
theorem one_ts {w : World} {S : Nat → Prop} {b : Nat} {a : Option Addr} {l : List St} {k : Nat} (hb : S b) (hc : w.cell? ⟨b, 0, none⟩ = some (.slice a l.length k)) (hl : StRow w S a l.length k l) : TsIn w S (some ⟨b, 0, none⟩) 1 1 [l] := by
  refine ⟨rfl, fun _ => a, fun _ => k, ⟨Nat.le_refl _, by decide, fun _ => ⟨b, 0, rfl, hb, fun i hi j hj => ?_⟩⟩, fun i hi => ?_⟩
  · obtain rfl : i = 0 := by simpa using hi
    obtain rfl : j = 0 := by omega
    simpa using hc
  · obtain rfl : i = 0 := by simpa using hi
    exact hl

def stL : St := .mk 1 0 0 exZ exZ [] []
def stW : St := .mk 11 0 0 (.mk 1 1 0 []) exZ [stL] []
def awP : Pg := ⟨[⟨#[120]⟩], 4, [[stW]]⟩
def awC : List Ins := [⟨12, 0, 0, .mk 1 1 0 [], exZ, 3⟩, ⟨1, 0, 0, exZ, exZ, 0⟩, ⟨13, 0, 0, exZ, exZ, 0⟩]
theorem cmpL_one (x : St) (at_ : Nat) : cmpL [x] at_ = cmpS x at_ := by unfold cmpL; simp
theorem awT : cmpT awP.ths = [awC] := by
  unfold cmpT awP
  simp only [List.map_cons, List.map_nil, cmpL_one]
  rw [cmpS_eq, cmpF_w _ _ _ rfl]
  show [brI (.mk 1 1 0 []) (0 + 2 + (cmpL [stL] (0 + 1)).length) :: cmpL [stL] (0 + 1) ++ [juI 0]] = _
  rw [cmpL_one, cmpS_eq, cmpF_o _ _ _ (by decide) (by decide)]
  rfl
theorem awN : nameB ⟨#[120]⟩ = true := by decide +kernel
theorem awCnt : cntT awP.ths = 2 := by
  unfold cntT awP
  simp only [List.map_cons, List.map_nil, List.sum_cons, List.sum_nil]
  unfold cntL
  simp only [List.map_cons, List.map_nil, List.sum_cons, List.sum_nil]
  rw [cntS_eq]
  show 1 + cntL [stL] + cntL [] + 0 + 0 = 2
  unfold cntL
  simp only [List.map_cons, List.map_nil, List.sum_cons, List.sum_nil]
  rw [cntS_eq]
  rfl
theorem awR : rightP awP = true := by
  unfold rightP sumT
  rw [awCnt]
  have h1 : awP.vars.all nameB = true := by show (nameB ⟨#[120]⟩ && true) = true; rw [awN]; rfl
  have h2 : decide awP.vars.Nodup = true := by decide
  have h3 : okT awP.vars.length awP.dom awP.ths = true := by decide +kernel
  rw [h1, h2, h3]
  rfl
theorem aw_right : rightL 1 4 [awC] = true := by decide +kernel
theorem aw_forward : forwardL 1 4 [awC] = false := by decide +kernel
theorem aw_stores : storesL awC = 0 := by decide +kernel
theorem nilP_not : rightP ⟨[], 0, []⟩ = false := rfl
end Go.Proofs.YtcgpobeidlimkaaGreatDoor
