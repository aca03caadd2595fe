/- The law's awake: true. -/
import Derived.Test.YtogopcejapklgaaGreatDoorTxI
import Derived.Test.YtogopcejapklgaaGreatDoorBunF
import Derived.Test.YtogopcejapklgaaGreatDoorPrL
import Derived.Test.YtogopcejapklgaaGreatDoorLexF
namespace Go.Proofs.YtogopcejapklgaaGreatDoor
open Go.RowKit

theorem lparse_any (s : ByteArray) (w : World) (hV : Vars w) : Calls Tryz.prog 12 #[.string s] w (PrsPost s.data.toList w) :=
  parse_of s w fun W hb => (lex_any s W (hV.next hb)).mono fun _ _ h => h
abbrev aTx : Value := .string ⟨#[97, 108, 119, 97, 121, 115, 40, 105, 109, 112, 108, 121, 40, 109, 101, 109, 40, 48, 44, 32, 49, 41, 44, 32, 101, 118, 101, 114, 40, 114, 101, 103, 40, 49, 44, 32, 48, 44, 32, 49, 41, 41, 41, 41]⟩
abbrev bTx : Value := .string ⟨#[97, 110, 100, 40, 98, 97, 100, 41]⟩
abbrev aFm (a : Option Addr) (cap : Nat) : Value := .agg #[.int .i64 11, .int .i64 0, .int .i64 0, .int .i64 0, .int .i64 0, .slice a 1 cap]
theorem aw_parse (w : World) (hV : Vars w) : Calls Tryz.prog 12 #[aTx] w fun e w' => ∃ a cap, e = .returned (.tuple #[aFm a cap, .int .i64 0, .int .i64 0]) ∧ FmIn w' (In_ w') (fmC 11 Pr.zero a 1 cap) awF ∧ Below w.heap.size w w' := by
  refine (lparse_any ⟨#[97, 108, 119, 97, 121, 115, 40, 105, 109, 112, 108, 121, 40, 109, 101, 109, 40, 48, 44, 32, 49, 41, 44, 32, 101, 118, 101, 114, 40, 114, 101, 103, 40, 49, 44, 32, 48, 44, 32, 49, 41, 41, 41, 41]⟩ w hV).mono ?_
  rintro e w' h
  unfold PrsPost at h
  have e1 : (⟨#[97, 108, 119, 97, 121, 115, 40, 105, 109, 112, 108, 121, 40, 109, 101, 109, 40, 48, 44, 32, 49, 41, 44, 32, 101, 118, 101, 114, 40, 114, 101, 103, 40, 49, 44, 32, 48, 44, 32, 49, 41, 41, 41, 41]⟩ : ByteArray).data.toList = awB := rfl
  rw [e1, prsR_aw] at h
  exact h
theorem ba_parse (w : World) (hV : Vars w) : Calls Tryz.prog 12 #[bTx] w fun e w' => ∃ v, e = .returned (.tuple #[.agg #[.int .i64 0, .int .i64 0, .int .i64 0, .int .i64 0, .int .i64 0, v], .int .i64 21, .int .i64 7]) ∧ v.oneCell' = true ∧ Below w.heap.size w w' := by
  refine (lparse_any ⟨#[97, 110, 100, 40, 98, 97, 100, 41]⟩ w hV).mono ?_
  rintro e w' h
  unfold PrsPost at h
  have e1 : (⟨#[97, 110, 100, 40, 98, 97, 100, 41]⟩ : ByteArray).data.toList = baB := rfl
  rw [e1, prsR_ba] at h
  obtain ⟨a, cap, he, -, hb⟩ := h
  exact ⟨_, he, rfl, hb⟩
theorem aw_print (w : World) (hV : Vars w) (a : Option Addr) (cap : Nat) (hin : FmIn w (In_ w) (fmC 11 Pr.zero a 1 cap) awF) :
    Calls Tryz.prog 10 #[aFm a cap] w fun e w' => e = .returned (.tuple #[aTx, .int .i64 0]) ∧ Below w.heap.size w w' := by
  have h := print_any awF a cap awF_ok.1 awF_ok.2 w hV hin
  rw [awB_txt] at h
  exact h
theorem aw_props (w : World) (a : Option Addr) (cap : Nat) (hin : FmIn w (In_ w) (fmC 11 Pr.zero a 1 cap) awF) :
    Calls Tryz.prog 20 #[aFm a cap] w fun e w' => ∃ b c, e = .returned (.slice (some ⟨b, 0, none⟩) 2 c) ∧ b < w'.heap.size ∧ w'.cell? ⟨b, 5, none⟩ = some (.int .i64 1) ∧ Below w.heap.size w w' := by
  refine (props_all 20 awF a cap w awF_ok.1 awF_ok.2 hin).mono ?_
  rw [propsF_aw]
  rintro e w' ⟨A, c, rfl, hO, hb⟩
  have hO' := hO
  obtain ⟨-, h | ⟨g, cp, cur, e, h1, h2, -⟩⟩ := hO'
  · simp at h
  · injection e with e1 e2 e3
    subst e1
    have hc := World.ownsRow.cellAt hO 5 (by simp)
    exact ⟨g, c, rfl, (Array.getElem?_eq_some_iff.1 h2).1, hc, hb⟩
theorem aw_same (w : World) (a : Option Addr) (cap : Nat) (hin : FmIn w (In_ w) (fmC 11 Pr.zero a 1 cap) awF) :
    Calls Tryz.prog 14 #[aFm a cap, aFm a cap] w fun e w' => e = .returned (.bool true) ∧ Below w.heap.size w w' := by
  have h := lsame_any awF awF _ _ w hin hin
  rw [eqF_self] at h
  exact h
theorem aw_right (w : World) (a : Option Addr) (cap : Nat) (hin : FmIn w (In_ w) (fmC 11 Pr.zero a 1 cap) awF) :
    Calls Tryz.prog 21 #[aFm a cap] w fun e w' => e = .returned (.bool true) ∧ Below w.heap.size w w' :=
  lright_any awF a cap awF_ok.1 awF_ok.2 w hin
end Go.Proofs.YtogopcejapklgaaGreatDoor
