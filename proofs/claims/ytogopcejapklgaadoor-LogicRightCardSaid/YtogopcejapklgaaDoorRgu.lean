/- LogicRight answers true. -/
import Derived.Test.YtogopcejapklgaaDoorBunR
import Derived.Test.YtogopcejapklgaaDoorTxL
import Derived.Deep.CutRange
namespace Go.Proofs.YtogopcejapklgaaDoor
open Go.RowKit

/-- A formula's box, and what has been kept. -/
structure RgS (w x : World) (B : Nat) (f : Fm) (a : Option Addr) (cap : Nat) : Prop where
  bl : Below w.heap.size w x
  hp : x.heap[B]? = some (.cells #[.int .i64 f.kind, .int .i64 f.prop.k, .int .i64 f.prop.t, .int .i64 f.prop.a, .int .i64 f.prop.n, .slice a f.kids.length cap] 29 (0, 0))
  fm : FmIn x (In_ x) (fmC f.kind f.prop a f.kids.length cap) f
namespace RgS
variable {w x y : World} {B cap : Nat} {f : Fm} {a : Option Addr}
theorem six (h : RgS w x B f a cap) : x.cell? ⟨B, 0, none⟩ = some (.int .i64 f.kind) ∧ x.cell? ⟨B, 1, none⟩ = some (.int .i64 f.prop.k) ∧ x.cell? ⟨B, 2, none⟩ = some (.int .i64 f.prop.t) ∧ x.cell? ⟨B, 3, none⟩ = some (.int .i64 f.prop.a) ∧ x.cell? ⟨B, 4, none⟩ = some (.int .i64 f.prop.n) ∧ x.cell? ⟨B, 5, none⟩ = some (.slice a f.kids.length cap) := by
  refine ⟨?_, ?_, ?_, ?_, ?_, ?_⟩
  all_goals (rw [cell_of_heap h.hp]; rfl)
theorem lt (h : RgS w x B f a cap) : B < x.heap.size := (Array.getElem?_eq_some_iff.1 h.hp).1
theorem below (h : RgS w x B f a cap) (hb : Below x.heap.size x y) : RgS w y B f a cap :=
  ⟨h.bl.trans (hb.mono h.bl.size), (hb.block _ h.lt).trans h.hp, (h.fm.keep fun b o hlt => hb.cell (p := ⟨b, o, none⟩) hlt).widen fun _b hlt => Nat.lt_of_lt_of_le hlt hb.size⟩
theorem new {x : World} (hb : Below w.heap.size w x) (hf : FmIn x (In_ x) (fmC f.kind f.prop a f.kids.length cap) f) : RgS w (x.alloc (.cells #[.int .i64 f.kind, .int .i64 f.prop.k, .int .i64 f.prop.t, .int .i64 f.prop.a, .int .i64 f.prop.n, .slice a f.kids.length cap] 29)) x.heap.size f a cap := by
  have hb2 := (Below.refl x.heap.size x).alloc (Nat.le_refl _) (.cells #[.int .i64 f.kind, .int .i64 f.prop.k, .int .i64 f.prop.t, .int .i64 f.prop.a, .int .i64 f.prop.n, .slice a f.kids.length cap] 29)
  exact ⟨hb.trans (hb2.mono hb.size), alloc_at rfl, (hf.keep fun b o hlt => hb2.cell (p := ⟨b, o, none⟩) hlt).widen fun b hlt => Nat.lt_of_lt_of_le hlt hb2.size⟩
end RgS

set_option maxRecDepth 100000 in
set_option maxHeartbeats 8000000 in
theorem logicRight_walk (s : ByteArray) (al : Option Addr) (nl cl : Nat) (l : List Nat) (small : Bool) (w : World) (hV : Vars w) (hl : ByIn w (In_ w) al nl cl l) :
    Calls Tryd.prog 3 #[.string s, .slice al nl cl, .bool small] w fun e w' => e = .returned (.bool true) ∧ Below w.heap.size w w' := by
  have HV := hid hV
  have Hl := hid hl
  clear hV hl
  go_enter Tryd.func3, Tryd.ntmps3
  go_upto_region 4 with (first
    | (go_at_call 4
       refine (awake_any w HV.out).mono ?_
       rintro e w1 ⟨rfl, hb1⟩
       have HB1 := hid hb1
       clear hb1)
    | fail)
  go_cut [24] from 19 to 23 (fun v wx => v = .bool (small || decide ((600 : Int) < s.size)) ∧ wx = w1)
  case first =>
    cases small with
    | true =>
      go_wp2_with fail
      go_meet
      case rel => exact ⟨by simp, rfl⟩
    | false =>
      generalize decide ((600 : Int) < s.size) = d6
      go_wp2_with fail
      go_meet
      case rel => exact ⟨by simp, rfl⟩
  case rest =>
  obtain ⟨rfl, hwc⟩ := hcut
  subst hwc
  generalize (small || decide ((600 : Int) < s.size)) = bb
  go_upto_if 24 with fail
  go_cut [0] from 25 to 26 (fun v wx => ∃ S : ByteArray, v = .string S ∧ Below w.heap.size w wx)
  case first =>
    cases bb with
    | true =>
      go_wp2_with (first
        | (go_at_call 5
           refine (pieces_any al nl cl l wc ((Kp.of HB1.out).bytes Hl.out)).mono ?_
           rintro e w2 ⟨S, rfl, -, -, hb2⟩
           have HB2 := hid (HB1.out.trans (hb2.mono HB1.out.size))
           clear hb2)
        | fail)
      go_meet
      case rel => exact ⟨S, rfl, HB2.out⟩
    | false =>
      go_wp2_with fail
      go_meet
      case rel => exact ⟨s, rfl, HB1.out⟩
  case rest =>
  obtain ⟨S, rfl, hBc⟩ := hcut
  rename World => W2
  have HV2 := hid (HV.out.next hBc)
  have HB2 := hid hBc
  clear hBc HB1 Hl
  rcases prsR_spec S.data.toList with ⟨h1, h2, h3, h4⟩ | ⟨h1, h2, h3, h4, h5, h6⟩
  · rcases hr : prsR S.data.toList with ⟨f, er, at_⟩
    rw [hr] at h1 h2 h3 h4
    dsimp only at h1 h2 h3 h4
    subst h1 h2
    have HO := hid (And.intro h3 h4)
    have HP := hid (rg_good S W2 HV2.out f hr)
    clear h3 h4 hr
    go_upto_region 7 with (first
      | (go_at_call 6
         refine HP.out.mono ?_
         rintro e w3 ⟨a, cap, rfl, hF, hb3⟩
         have HF := hid hF
         have HB3 := hid (HB2.out.trans (hb3.mono HB2.out.size))
         clear hF hb3)
      | fail)
    generalize hW : World.alloc w3 _ = W3
    have H3 : Hid (RgS w W3 w3.heap.size f a cap) := by subst hW; exact hid (RgS.new HB3.out HF.out)
    generalize w3.heap.size = B at *
    clear hW HF HB3 HP HV2
    obtain ⟨z0, z1, z2, z3, z4, z5⟩ := H3.out.six
    go_upto_region 10 with (first
      | (go_at_call 7
         refine (print_any f a cap HO.out.1 HO.out.2 W3 (HV.out.next H3.out.bl) H3.out.fm).mono ?_
         rintro e w4 ⟨rfl, hb4⟩
         have H4 := hid (H3.out.below hb4)
         clear hb4)
      | fail)
    go_upto_region 11 with (first
      | (go_at_call 6
         refine (rg_again f HO.out.1 HO.out.2 w4 (HV.out.next H4.out.bl)).mono ?_
         rintro e w5 ⟨a2, cap2, rfl, hF, hb5⟩
         have H5 := hid (H4.out.below hb5)
         have HF := hid hF
         clear hF hb5)
      | fail)
    generalize hW : World.alloc w5 _ = W5
    have HA : Hid (Below w5.heap.size w5 W5) := by subst hW; exact hid ((Below.refl _ _).alloc (Nat.le_refl _) _)
    have H6 : Hid (RgS w W5 B f a cap) := hid (H5.out.below HA.out)
    have H7 : Hid (RgS w5 W5 w5.heap.size f a2 cap2) := by subst hW; exact hid (RgS.new (Below.refl _ _) HF.out)
    generalize w5.heap.size = B2 at *
    clear hW HF HA H3 H4 H5 z0 z1 z2 z3 z4 z5
    obtain ⟨z0, z1, z2, z3, z4, z5⟩ := H6.out.six
    obtain ⟨y0, y1, y2, y3, y4, y5⟩ := H7.out.six
    go_wp2_with (first
      | (go_at_call 8
         refine (lright_any f a cap HO.out.1 HO.out.2 W5 H6.out.fm).mono ?_
         rintro e w6 ⟨rfl, hb6⟩
         have H8 := hid (H6.out.below hb6)
         have H9 := hid (H7.out.below hb6)
         obtain ⟨z0, z1, z2, z3, z4, z5⟩ := H8.out.six
         obtain ⟨y0, y1, y2, y3, y4, y5⟩ := H9.out.six
         clear hb6)
      | (go_at_call 9
         refine (rsame_any f f _ _ w6 H8.out.fm H9.out.fm).mono ?_
         rintro e w7 ⟨rfl, hb7⟩
         have H10 := hid (H8.out.below hb7)
         clear hb7)
      | fail)
    go_ret
    exact ⟨ret_bool (eqF_self f), H10.out.bl⟩
  · have HP := hid (rg_bad S W2 HV2.out ⟨h1, h2⟩)
    rw [data_len] at h4
    generalize (prsR S.data.toList).2.1 = er at *
    generalize (prsR S.data.toList).2.2 = at_ at *
    have hn : (er != 0) = true := by simpa using h1
    have d1 : decide ((0 : Int) ≤ at_) = true := decide_eq_true h3
    have d2 : decide (at_ ≤ (S.size : Int)) = true := decide_eq_true h4
    clear h2
    go_wp2_with (first
      | (go_at_call 6
         refine HP.out.mono ?_
         rintro e w3 ⟨hb3, a, cap, rfl⟩
         have HB3 := hid (HB2.out.trans (hb3.mono HB2.out.size))
         clear hb3)
      | fail)
    go_ret
    exact ⟨rfl, HB3.out.alloc HB3.out.size _⟩
end Go.Proofs.YtogopcejapklgaaDoor
