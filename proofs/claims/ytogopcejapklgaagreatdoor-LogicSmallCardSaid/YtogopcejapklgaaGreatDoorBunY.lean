/- The law's awake: true. -/
import Derived.Test.YtogopcejapklgaaGreatDoorTxI
import Derived.Test.YtogopcejapklgaaGreatDoorBunF
import Derived.Test.YtogopcejapklgaaGreatDoorPrL
import Derived.Test.YtogopcejapklgaaGreatDoorLexF
namespace Go.Proofs.YtogopcejapklgaaGreatDoor
open Go.RowKit

theorem lparse_any (s : ByteArray) (w : World) (hV : Vars w) : Calls Tryz.prog 12 #[.string s] w (PrsPost s.data.toList w) :=
  parse_of s w fun W hb => (lex_any s W (hV.next hb)).mono fun _ _ h => h
abbrev aTx : Value := .string ⟨#[97, 108, 119, 97, 121, 115, 40, 105, 109, 112, 108, 121, 40, 109, 101, 109, 40, 48, 44, 32, 49, 41, 44, 32, 101, 118, 101, 114, 40, 114, 101, 103, 40, 49, 44, 32, 48, 44, 32, 49, 41, 41, 41, 41]⟩
abbrev bTx : Value := .string ⟨#[97, 110, 100, 40, 98, 97, 100, 41]⟩
abbrev aFm (a : Option Addr) (cap : Nat) : Value := .agg #[.int .i64 11, .int .i64 0, .int .i64 0, .int .i64 0, .int .i64 0, .slice a 1 cap]
theorem aw_parse (w : World) (hV : Vars w) : Calls Tryz.prog 12 #[aTx] w fun e w' => ∃ a cap, e = .returned (.tuple #[aFm a cap, .int .i64 0, .int .i64 0]) ∧ FmIn w' (In_ w') (fmC 11 Pr.zero a 1 cap) awF ∧ Below w.heap.size w w' := by
  refine (lparse_any ⟨#[97, 108, 119, 97, 121, 115, 40, 105, 109, 112, 108, 121, 40, 109, 101, 109, 40, 48, 44, 32, 49, 41, 44, 32, 101, 118, 101, 114, 40, 114, 101, 103, 40, 49, 44, 32, 48, 44, 32, 49, 41, 41, 41, 41]⟩ w hV).mono ?_
  rintro e w' h
  unfold PrsPost at h
  have e1 : (⟨#[97, 108, 119, 97, 121, 115, 40, 105, 109, 112, 108, 121, 40, 109, 101, 109, 40, 48, 44, 32, 49, 41, 44, 32, 101, 118, 101, 114, 40, 114, 101, 103, 40, 49, 44, 32, 48, 44, 32, 49, 41, 41, 41, 41]⟩ : ByteArray).data.toList = awB := rfl
  rw [e1, prsR_aw] at h
  exact h
theorem ba_parse (w : World) (hV : Vars w) : Calls Tryz.prog 12 #[bTx] w fun e w' => ∃ v, e = .returned (.tuple #[.agg #[.int .i64 0, .int .i64 0, .int .i64 0, .int .i64 0, .int .i64 0, v], .int .i64 21, .int .i64 7]) ∧ v.oneCell' = true ∧ Below w.heap.size w w' := by
  refine (lparse_any ⟨#[97, 110, 100, 40, 98, 97, 100, 41]⟩ w hV).mono ?_
  rintro e w' h
  unfold PrsPost at h
  have e1 : (⟨#[97, 110, 100, 40, 98, 97, 100, 41]⟩ : ByteArray).data.toList = baB := rfl
  rw [e1, prsR_ba] at h
  obtain ⟨a, cap, he, -, hb⟩ := h
  exact ⟨_, he, rfl, hb⟩
theorem aw_print (w : World) (hV : Vars w) (a : Option Addr) (cap : Nat) (hin : FmIn w (In_ w) (fmC 11 Pr.zero a 1 cap) awF) :
    Calls Tryz.prog 10 #[aFm a cap] w fun e w' => e = .returned (.tuple #[aTx, .int .i64 0]) ∧ Below w.heap.size w w' := by
  have h := print_any awF a cap awF_ok.1 awF_ok.2 w hV hin
  rw [awB_txt] at h
  exact h
theorem aw_props (w : World) (a : Option Addr) (cap : Nat) (hin : FmIn w (In_ w) (fmC 11 Pr.zero a 1 cap) awF) :
    Calls Tryz.prog 20 #[aFm a cap] w fun e w' => ∃ b c, e = .returned (.slice (some ⟨b, 0, none⟩) 2 c) ∧ b < w'.heap.size ∧ w'.cell? ⟨b, 5, none⟩ = some (.int .i64 1) ∧ Below w.heap.size w w' := by
  refine (props_all 20 awF a cap w awF_ok.1 awF_ok.2 hin).mono ?_
  rw [propsF_aw]
  rintro e w' ⟨A, c, rfl, hO, hb⟩
  have hO' := hO
  obtain ⟨-, h | ⟨g, cp, cur, e, h1, h2, -⟩⟩ := hO'
  · simp at h
  · injection e with e1 e2 e3
    subst e1
    have hc := World.ownsRow.cellAt hO 5 (by simp)
    exact ⟨g, c, rfl, (Array.getElem?_eq_some_iff.1 h2).1, hc, hb⟩
theorem aw_same (w : World) (a : Option Addr) (cap : Nat) (hin : FmIn w (In_ w) (fmC 11 Pr.zero a 1 cap) awF) :
    Calls Tryz.prog 14 #[aFm a cap, aFm a cap] w fun e w' => e = .returned (.bool true) ∧ Below w.heap.size w w' := by
  have h := lsame_any awF awF _ _ w hin hin
  rw [eqF_self] at h
  exact h
theorem aw_right (w : World) (a : Option Addr) (cap : Nat) (hin : FmIn w (In_ w) (fmC 11 Pr.zero a 1 cap) awF) :
    Calls Tryz.prog 21 #[aFm a cap] w fun e w' => e = .returned (.bool true) ∧ Below w.heap.size w w' :=
  lright_any awF a cap awF_ok.1 awF_ok.2 w hin
end Go.Proofs.YtogopcejapklgaaGreatDoor
namespace Go.Proofs.YtogopcejapklgaaGreatDoor
open Go.RowKit

/-- The formula's box in awake. -/
structure AwS (w x : World) (B : Nat) (a : Option Addr) (cap : Nat) : Prop where
  bl : Below w.heap.size w x
  hp : x.heap[B]? = some (.cells #[.int .i64 11, .int .i64 0, .int .i64 0, .int .i64 0, .int .i64 0, .slice a 1 cap] 30 (0, 0))
  fm : FmIn x (In_ x) (fmC 11 Pr.zero a 1 cap) awF
namespace AwS
variable {w x y : World} {B cap : Nat} {a : Option Addr}
theorem six (h : AwS w x B a cap) : x.cell? ⟨B, 0, none⟩ = some (.int .i64 11) ∧ x.cell? ⟨B, 1, none⟩ = some (.int .i64 0) ∧ x.cell? ⟨B, 2, none⟩ = some (.int .i64 0) ∧ x.cell? ⟨B, 3, none⟩ = some (.int .i64 0) ∧ x.cell? ⟨B, 4, none⟩ = some (.int .i64 0) ∧ x.cell? ⟨B, 5, none⟩ = some (.slice a 1 cap) := by
  refine ⟨?_, ?_, ?_, ?_, ?_, ?_⟩
  all_goals (rw [cell_of_heap h.hp]; rfl)
theorem below (h : AwS w x B a cap) (hb : Below x.heap.size x y) : AwS w y B a cap :=
  ⟨h.bl.trans (hb.mono h.bl.size), (hb.block _ (Array.getElem?_eq_some_iff.1 h.hp).1).trans h.hp, (h.fm.keep fun b o hlt => hb.cell (p := ⟨b, o, none⟩) hlt).widen fun _b hlt => Nat.lt_of_lt_of_le hlt hb.size⟩
end AwS

set_option maxRecDepth 100000 in
set_option maxHeartbeats 8000000 in
theorem awake_any (w : World) (hV : Vars w) : Calls Tryz.prog 7 #[] w fun e w' => e = .returned (.bool true) ∧ Below w.heap.size w w' := by
  have HV := hid hV
  clear hV
  go_enter Tryz.func7, Tryz.ntmps7
  go_upto_region 2 with (first
    | (go_at_call 12
       refine (aw_parse w HV.out).mono ?_
       rintro e w1 ⟨a, cap, rfl, hF, hb1⟩
       have HF := hid hF
       have HB := hid hb1
       clear hF hb1)
    | fail)
  generalize hW : World.alloc w1 _ = W1
  have h1 : Hid (AwS w W1 w1.heap.size a cap) := by
    subst hW
    have hb := (Below.refl w1.heap.size w1).alloc (Nat.le_refl _) (.cells #[.int .i64 11, .int .i64 0, .int .i64 0, .int .i64 0, .int .i64 0, .slice a 1 cap] 30)
    exact hid ⟨HB.out.trans (hb.mono HB.out.size), alloc_at rfl, (HF.out.keep fun b o hlt => hb.cell (p := ⟨b, o, none⟩) hlt).widen fun b hlt => Nat.lt_of_lt_of_le hlt hb.size⟩
  generalize w1.heap.size = B at *
  clear hW HF HB
  obtain ⟨z0, z1, z2, z3, z4, z5⟩ := h1.out.six
  go_upto_region 3 with (first
    | (go_at_call 10
       refine (aw_print W1 (HV.out.next h1.out.bl) a cap h1.out.fm).mono ?_
       rintro e w2 ⟨rfl, hb2⟩
       have h2 := hid (h1.out.below hb2)
       clear hb2)
    | fail)
  go_upto_region 4 with (first
    | (go_at_call 12
       refine (ba_parse w2 (HV.out.next h2.out.bl)).mono ?_
       rintro e w3 ⟨v, rfl, hv1, hb3⟩
       have h3 := hid (h2.out.below hb3)
       have hst := fun ad W m => run_store (P := Tryz.prog) W ad v m hv1
       clear hb3)
    | fail)
  generalize hW : World.alloc w3 _ = W3
  have h4 : Hid (AwS w W3 B a cap) := by subst hW; exact hid (h3.out.below ((Below.refl _ _).alloc (Nat.le_refl _) _))
  clear hW h1 h2 h3 z0 z1 z2 z3 z4 z5
  go_upto_region 5 with (first
    | (go_at_call 10
       refine (print_zero W3).mono ?_
       rintro e w4 ⟨rfl, hb4⟩
       have h5 := hid (h4.out.below hb4)
       obtain ⟨z0, z1, z2, z3, z4, z5⟩ := h5.out.six
       clear hb4)
    | fail)
  go_upto_region 6 with (first
    | (go_at_call 20
       refine (aw_props w4 a cap h5.out.fm).mono ?_
       rintro e w5 ⟨b5, c5, rfl, hlt5, hc5, hb5⟩
       have h6 := hid (h5.out.below hb5)
       obtain ⟨z0, z1, z2, z3, z4, z5⟩ := h6.out.six
       clear hb5)
    | fail)
  clear h4 h5
  go_wp2_with (first
    | (go_at_call 21
       refine (aw_right w5 a cap h6.out.fm).mono ?_
       rintro e w6 ⟨rfl, hb6⟩
       have h7 := hid (h6.out.below hb6)
       obtain ⟨z0, z1, z2, z3, z4, z5⟩ := h7.out.six
       clear hb6)
    | (go_at_call 14
       refine (aw_same w6 a cap h7.out.fm).mono ?_
       rintro e w7 ⟨rfl, hb7⟩
       have h8 := hid (h7.out.below hb7)
       clear hb7)
    | fail)
  go_ret
  exact ⟨rfl, h8.out.bl⟩
end Go.Proofs.YtogopcejapklgaaGreatDoor
namespace Go.Proofs.YtogopcejapklgaaGreatDoor
open Go Go.RowKit

def RSaF (x : Fm) : Prop := ∀ (y : Fm) (cs ds : List Value) (w : World), FmIn w (In_ w) cs x → FmIn w (In_ w) ds y →
  Calls Tryz.prog 13 #[.agg cs.toArray, .agg ds.toArray] w fun e w' => e = .returned (.bool (eqF x y)) ∧ Below w.heap.size w w'

set_option maxRecDepth 100000 in
set_option maxHeartbeats 8000000 in
theorem rsamF_step (k : Int) (p : Pr) (l : List Fm) (ih : ∀ x, x ∈ l → RSaF x) : RSaF (.mk k p l) := by
  intro y cs ds w hin hin2
  obtain ⟨k', p', l'⟩ := y
  have hres := eqF_mk k k' p p' l l'
  obtain ⟨a, cap, rfl, -, -, hk⟩ := hin.open_
  obtain ⟨a', cap', rfl, -, -, hk'⟩ := hin2.open_
  obtain ⟨pk, pt, pa, pn⟩ := p
  obtain ⟨pk', pt', pa', pn'⟩ := p'
  simp only [eqP] at hres
  have hle := hk.le
  have hmx := hk.mx
  have hle' := hk'.le
  have hmx' := hk'.mx
  unfold maxLen at hmx hmx'
  have hAA : Hid (∀ o1 o2, Below w.heap.size w ((w.alloc o1).alloc o2)) := hid fun o1 o2 => ((Below.refl _ _).alloc (Nat.le_refl _) _).alloc (by simp) _
  have Hres := hid hres
  have Hk := hid hk
  have Hk' := hid hk'
  have Hih := hid ih
  clear hin hin2 hk hk' ih hres
  go_enter Tryz.func13, Tryz.ntmps13
  cases e1 : (k == k')
  · have e1' : (k != k') = true := by simpa using e1
    go_wp2_with fail
    go_ret
    exact ⟨ret_bool (by rw [Hres.out, e1]; rfl), hAA.out _ _⟩
  have e1' : (k != k') = false := by simpa using e1
  by_cases h_pk : pk = pk'
  case neg =>
    have hbq : (pk == pk') = false := by simpa using h_pk
    go_wp2_with fail
    go_ret
    exact ⟨ret_bool (by rw [Hres.out, hbq]; simp), hAA.out _ _⟩
  subst h_pk
  by_cases h_pt : pt = pt'
  case neg =>
    have hbq : (pt == pt') = false := by simpa using h_pt
    go_wp2_with fail
    go_ret
    exact ⟨ret_bool (by rw [Hres.out, hbq]; simp), hAA.out _ _⟩
  subst h_pt
  by_cases h_pa : pa = pa'
  case neg =>
    have hbq : (pa == pa') = false := by simpa using h_pa
    go_wp2_with fail
    go_ret
    exact ⟨ret_bool (by rw [Hres.out, hbq]; simp), hAA.out _ _⟩
  subst h_pa
  by_cases h_pn : pn = pn'
  case neg =>
    have hbq : (pn == pn') = false := by simpa using h_pn
    go_wp2_with fail
    go_ret
    exact ⟨ret_bool (by rw [Hres.out, hbq]; simp), hAA.out _ _⟩
  subst h_pn
  have Hres2 : Hid (eqF (.mk k ⟨pk, pt, pa, pn⟩ l) (.mk k' ⟨pk, pt, pa, pn⟩ l') = eqL l l') := by show _ = _; rw [Hres.out, e1]; simp
  clear Hres
  by_cases hl : l.length = l'.length
  case neg =>
    have e4 : ((l.length : Int) != l'.length) = true := by simpa using fun e => hl (by omega)
    go_wp2_with fail
    go_ret
    exact ⟨ret_bool (by rw [Hres2.out, eqL_ne hl]), hAA.out _ _⟩
  have e4 : ((l.length : Int) != l'.length) = false := by rw [hl]; simp
  have Hl := hid hl
  clear hl
  go_upto_region 3 with fail
  generalize hW : World.alloc _ _ = W0
  have hB0 : Hid (Below w.heap.size w W0) := by subst hW; exact hid (hAA.out _ _)
  have hp : Hid (W0.heap[w.heap.size]? = some (fmO k ⟨pk, pt, pa, pn⟩ (.slice a l.length cap)) ∧ W0.heap[w.heap.size + 1]? = some (fmO k' ⟨pk, pt, pa, pn⟩ (.slice a' l'.length cap'))) := by
    subst hW
    exact hid ⟨(Below.heap_alloc _ _ _ (by simp)).trans (alloc_at rfl), alloc_at (by simp)⟩
  clear hW e4 e1 e1'
  go_wp2_with fail
  go_loopw [5] (fun i wr => ∃ q : Nat, q ≤ l.length ∧ i = .int .i64 q ∧ Hid (∀ i (h1 : i < l.length) (h2 : i < l'.length), i < q → eqF l[i] l'[i] = true) ∧ Hid (Below W0.heap.size W0 wr)) (fun i _ => l.length - (intOf i).toNat)
  case atStart => exact ⟨0, Nat.zero_le _, rfl, fun i _ _ h => absurd h (by omega), Below.refl _ _⟩
  case round =>
    obtain ⟨q, hq, rfl, hI, hK0⟩ := hrel
    have hK := hid (hB0.out.trans (hK0.out.mono hB0.out.size))
    have gs0 := (Array.getElem?_eq_some_iff.1 hp.out.2).1
    have p0 := (hK0.out.block _ (Nat.lt_of_succ_lt gs0)).trans hp.out.1
    have p1 := (hK0.out.block _ gs0).trans hp.out.2
    have y5 : wr.cell? ⟨w.heap.size, 5, none⟩ = some (.slice a l.length cap) := by rw [cell_of_heap p0]; rfl
    have y5' : wr.cell? ⟨w.heap.size + 1, 5, none⟩ = some (.slice a' l'.length cap') := by rw [cell_of_heap p1]; rfl
    have gw' : w.heap.size + 1 < wr.heap.size := (Array.getElem?_eq_some_iff.1 p1).1
    have gw : w.heap.size < wr.heap.size := by omega
    clear p0 p1
    by_cases hlt : q < l.length
    case neg =>
      obtain rfl : q = l.length := by omega
      have hf : Hid (eqL l l' = true) := hid ((eqL_take Hl.out).2 fun i h1 h2 => hI.out i h1 h2 h1)
      clear hI
      go_wp2_with fail
      go_ret
      exact ⟨ret_bool (by rw [Hres2.out, hf.out]), hK.out⟩
    have hlt' : q < l'.length := by have := Hl.out; omega
    have hin' : FmRow wr (In_ w) a l.length cap l := Hk.out.keep fun b o hb => hK.out.cell (p := ⟨b, o, none⟩) hb
    have hin2 : FmRow wr (In_ w) a' l'.length cap' l' := Hk'.out.keep fun b o hb => hK.out.cell (p := ⟨b, o, none⟩) hb
    obtain ⟨b, off, ka, kc, rfl, hb, ⟨e0, e1, e2, e3, e4, e5⟩, -, hfm⟩ := hin'.at_ q hlt
    obtain ⟨b', off', ka', kc', rfl, hb', ⟨d0, d1, d2, d3, d4, d5⟩, -, hfm'⟩ := hin2.at_ q hlt'
    have g0 := hK.out.size
    have hbl : b < w.heap.size := hb
    have hbl' : b' < w.heap.size := hb'
    have q0 : (0 : Int) ≤ q := by omega
    have q1 : (q : Int) < l.length := by omega
    have q2 : (q : Int) < l'.length := by omega
    have gb : b < wr.heap.size := by omega
    have gb' : b' < wr.heap.size := by omega
    have hbad := hid (fun h => eqL_bad hlt hlt' h)
    have hgood : Hid (eqF l[q] l'[q] = true → ∀ i (h1 : i < l.length) (h2 : i < l'.length), i < q + 1 → eqF l[i] l'[i] = true) := fun h i h1 h2 hi => by
      by_cases e : i = q
      · subst e; exact h
      · exact hI.out i h1 h2 (by omega)
    have hcall : Hid (∀ W, Below wr.heap.size wr W → Calls Tryz.prog 13 #[.agg #[.int .i64 l[q].kind, .int .i64 l[q].prop.k, .int .i64 l[q].prop.t, .int .i64 l[q].prop.a, .int .i64 l[q].prop.n, .slice ka l[q].kids.length kc], .agg #[.int .i64 l'[q].kind, .int .i64 l'[q].prop.k, .int .i64 l'[q].prop.t, .int .i64 l'[q].prop.a, .int .i64 l'[q].prop.n, .slice ka' l'[q].kids.length kc']] W fun e w' => e = .returned (.bool (eqF l[q] l'[q])) ∧ Below W.heap.size W w') :=
      hid fun W hbW => Hih.out l[q] (List.getElem_mem hlt) l'[q] _ _ W
        ((hfm.keep fun b o hb => hbW.cell (p := ⟨b, o, none⟩) (Nat.lt_of_lt_of_le hb g0)).widen fun b hb => Nat.lt_of_lt_of_le hb (Nat.le_trans g0 hbW.size))
        ((hfm'.keep fun b o hb => hbW.cell (p := ⟨b, o, none⟩) (Nat.lt_of_lt_of_le hb g0)).widen fun b hb => Nat.lt_of_lt_of_le hb (Nat.le_trans g0 hbW.size))
    generalize eqF l[q] l'[q] = bq at *
    generalize l[q].kind = kd at *
    generalize l[q].prop.k = xk at *
    generalize l[q].prop.t = xt at *
    generalize l[q].prop.a = xa at *
    generalize l[q].prop.n = xn at *
    generalize l[q].kids.length = kl at *
    generalize l'[q].kind = kd' at *
    generalize l'[q].prop.k = xk' at *
    generalize l'[q].prop.t = xt' at *
    generalize l'[q].prop.a = xa' at *
    generalize l'[q].prop.n = xn' at *
    generalize l'[q].kids.length = kl' at *
    have HK0 := hid hK0.out
    clear hI hin' hin2 hfm hfm' hlt'
    cases bq
    · have hf := hid (hbad.out rfl)
      clear hbad hgood
      go_upto_region 6 with fail
      refine wp_region_held_drew (S := fun W => W.cell? ⟨w.heap.size, 5, none⟩ = some (.slice (some ⟨b, off, none⟩) l.length cap) ∧ W.cell? ⟨w.heap.size + 1, 5, none⟩ = some (.slice (some ⟨b', off', none⟩) l'.length cap') ∧ W.cell? ⟨b, off + q * 6, none⟩ = some (.int .i64 kd) ∧ W.cell? ⟨b, off + q * 6 + 1, none⟩ = some (.int .i64 xk) ∧ W.cell? ⟨b, off + q * 6 + 2, none⟩ = some (.int .i64 xt) ∧ W.cell? ⟨b, off + q * 6 + 3, none⟩ = some (.int .i64 xa) ∧ W.cell? ⟨b, off + q * 6 + 4, none⟩ = some (.int .i64 xn) ∧ W.cell? ⟨b, off + q * 6 + 5, none⟩ = some (.slice ka kl kc) ∧ W.cell? ⟨b', off' + q * 6, none⟩ = some (.int .i64 kd') ∧ W.cell? ⟨b', off' + q * 6 + 1, none⟩ = some (.int .i64 xk') ∧ W.cell? ⟨b', off' + q * 6 + 2, none⟩ = some (.int .i64 xt') ∧ W.cell? ⟨b', off' + q * 6 + 3, none⟩ = some (.int .i64 xa') ∧ W.cell? ⟨b', off' + q * 6 + 4, none⟩ = some (.int .i64 xn') ∧ W.cell? ⟨b', off' + q * 6 + 5, none⟩ = some (.slice ka' kl' kc')) (by kernel_rfl) ⟨y5, y5', e0, e1, e2, e3, e4, e5, d0, d1, d2, d3, d4, d5⟩ (fun hHeld => ?_)
      refine takeL (i := 0) (v := ?_) rfl (by kernel_rfl) (by kernel_rfl) (by kernel_rfl) (fun _ _ _ h => h) (Or.inl ⟨by rfl, ?_⟩) (by assumption) ?_
      rotate_left
      focus (intro w hSw; obtain ⟨s0, s1, s2, s3, s4, s5, s6, s7, s8, s9, s10, s11, s12, s13⟩ := hSw; go_simp; try with_reducible rfl)
      try simp only [Act.put, List.setIfInBounds_toArray, List.set_cons_zero, List.set_cons_succ]
      refine takeL (i := 1) (v := ?_) rfl (by kernel_rfl) (by kernel_rfl) (by kernel_rfl) (fun _ _ _ h => h) (Or.inl ⟨by rfl, ?_⟩) (by assumption) ?_
      rotate_left
      focus (intro w hSw; obtain ⟨s0, s1, s2, s3, s4, s5, s6, s7, s8, s9, s10, s11, s12, s13⟩ := hSw; go_simp; try with_reducible rfl)
      try simp only [Act.put, List.setIfInBounds_toArray, List.set_cons_zero, List.set_cons_succ]
      refine takeL (i := 2) (v := ?_) rfl (by kernel_rfl) (by kernel_rfl) (by kernel_rfl) (fun _ _ _ h => h) (Or.inl ⟨by rfl, ?_⟩) (by assumption) ?_
      rotate_left
      focus (intro w hSw; obtain ⟨s0, s1, s2, s3, s4, s5, s6, s7, s8, s9, s10, s11, s12, s13⟩ := hSw; go_simp; try with_reducible rfl)
      try simp only [Act.put, List.setIfInBounds_toArray, List.set_cons_zero, List.set_cons_succ]
      refine takeL (i := 3) (v := ?_) rfl (by kernel_rfl) (by kernel_rfl) (by kernel_rfl) (fun _ _ _ h => h) (Or.inl ⟨by rfl, ?_⟩) (by assumption) ?_
      rotate_left
      focus (intro w hSw; obtain ⟨s0, s1, s2, s3, s4, s5, s6, s7, s8, s9, s10, s11, s12, s13⟩ := hSw; go_simp; try with_reducible rfl)
      try simp only [Act.put, List.setIfInBounds_toArray, List.set_cons_zero, List.set_cons_succ]
      refine takeL (i := 4) (v := ?_) rfl (by kernel_rfl) (by kernel_rfl) (by kernel_rfl) (fun _ _ _ h => h) (Or.inl ⟨by rfl, ?_⟩) (by assumption) ?_
      rotate_left
      focus (intro w hSw; obtain ⟨s0, s1, s2, s3, s4, s5, s6, s7, s8, s9, s10, s11, s12, s13⟩ := hSw; go_simp; try with_reducible rfl)
      try simp only [Act.put, List.setIfInBounds_toArray, List.set_cons_zero, List.set_cons_succ]
      refine takeL (i := 5) (v := ?_) rfl (by kernel_rfl) (by kernel_rfl) (by kernel_rfl) (fun _ _ _ h => h) (Or.inl ⟨by rfl, ?_⟩) (by assumption) ?_
      rotate_left
      focus (intro w hSw; obtain ⟨s0, s1, s2, s3, s4, s5, s6, s7, s8, s9, s10, s11, s12, s13⟩ := hSw; go_simp; try with_reducible rfl)
      try simp only [Act.put, List.setIfInBounds_toArray, List.set_cons_zero, List.set_cons_succ]
      refine takeL (i := 6) (v := ?_) rfl (by kernel_rfl) (by kernel_rfl) (by kernel_rfl) (fun _ _ _ h => h) (Or.inl ⟨by rfl, ?_⟩) (by assumption) ?_
      rotate_left
      focus (intro w hSw; obtain ⟨s0, s1, s2, s3, s4, s5, s6, s7, s8, s9, s10, s11, s12, s13⟩ := hSw; go_simp; try with_reducible rfl)
      try simp only [Act.put, List.setIfInBounds_toArray, List.set_cons_zero, List.set_cons_succ]
      refine takeL (i := 7) (v := ?_) rfl (by kernel_rfl) (by kernel_rfl) (by kernel_rfl) (fun _ _ _ h => h) (Or.inl ⟨by rfl, ?_⟩) (by assumption) ?_
      rotate_left
      focus (intro w hSw; obtain ⟨s0, s1, s2, s3, s4, s5, s6, s7, s8, s9, s10, s11, s12, s13⟩ := hSw; go_simp; try with_reducible rfl)
      try simp only [Act.put, List.setIfInBounds_toArray, List.set_cons_zero, List.set_cons_succ]
      refine takeL (i := 8) (v := ?_) rfl (by kernel_rfl) (by kernel_rfl) (by kernel_rfl) (fun _ _ _ h => h) (Or.inl ⟨by rfl, ?_⟩) (by assumption) ?_
      rotate_left
      focus (intro w hSw; obtain ⟨s0, s1, s2, s3, s4, s5, s6, s7, s8, s9, s10, s11, s12, s13⟩ := hSw; go_simp; try with_reducible rfl)
      try simp only [Act.put, List.setIfInBounds_toArray, List.set_cons_zero, List.set_cons_succ]
      refine takeL (i := 9) (v := ?_) rfl (by kernel_rfl) (by kernel_rfl) (by kernel_rfl) (fun _ _ _ h => h) (Or.inl ⟨by rfl, ?_⟩) (by assumption) ?_
      rotate_left
      focus (intro w hSw; obtain ⟨s0, s1, s2, s3, s4, s5, s6, s7, s8, s9, s10, s11, s12, s13⟩ := hSw; go_simp; try with_reducible rfl)
      try simp only [Act.put, List.setIfInBounds_toArray, List.set_cons_zero, List.set_cons_succ]
      refine callL (i := 10) (by kernel_rfl) rfl (fun K hQ => ?_)
      go_simp
      go_at_call 13
      with_reducible refine (hcall.out wr.drew (Below.refl _ _).drew).mono ?_
      rintro e x1 ⟨rfl, hb1⟩
      have HK1 := hid (hK.out.trans (((Below.refl _ wr).drew.trans hb1).mono g0))
      have hS1 : x1.cell? ⟨w.heap.size, 5, none⟩ = some (.slice (some ⟨b, off, none⟩) l.length cap) ∧ x1.cell? ⟨w.heap.size + 1, 5, none⟩ = some (.slice (some ⟨b', off', none⟩) l'.length cap') ∧ x1.cell? ⟨b, off + q * 6, none⟩ = some (.int .i64 kd) ∧ x1.cell? ⟨b, off + q * 6 + 1, none⟩ = some (.int .i64 xk) ∧ x1.cell? ⟨b, off + q * 6 + 2, none⟩ = some (.int .i64 xt) ∧ x1.cell? ⟨b, off + q * 6 + 3, none⟩ = some (.int .i64 xa) ∧ x1.cell? ⟨b, off + q * 6 + 4, none⟩ = some (.int .i64 xn) ∧ x1.cell? ⟨b, off + q * 6 + 5, none⟩ = some (.slice ka kl kc) ∧ x1.cell? ⟨b', off' + q * 6, none⟩ = some (.int .i64 kd') ∧ x1.cell? ⟨b', off' + q * 6 + 1, none⟩ = some (.int .i64 xk') ∧ x1.cell? ⟨b', off' + q * 6 + 2, none⟩ = some (.int .i64 xt') ∧ x1.cell? ⟨b', off' + q * 6 + 3, none⟩ = some (.int .i64 xa') ∧ x1.cell? ⟨b', off' + q * 6 + 4, none⟩ = some (.int .i64 xn') ∧ x1.cell? ⟨b', off' + q * 6 + 5, none⟩ = some (.slice ka' kl' kc') :=
        ⟨(hb1.cell (p := ⟨w.heap.size, 5, none⟩) gw).trans y5, (hb1.cell (p := ⟨w.heap.size + 1, 5, none⟩) gw').trans y5', (hb1.cell (p := ⟨b, off + q * 6, none⟩) gb).trans e0, (hb1.cell (p := ⟨b, off + q * 6 + 1, none⟩) gb).trans e1, (hb1.cell (p := ⟨b, off + q * 6 + 2, none⟩) gb).trans e2, (hb1.cell (p := ⟨b, off + q * 6 + 3, none⟩) gb).trans e3, (hb1.cell (p := ⟨b, off + q * 6 + 4, none⟩) gb).trans e4, (hb1.cell (p := ⟨b, off + q * 6 + 5, none⟩) gb).trans e5, (hb1.cell (p := ⟨b', off' + q * 6, none⟩) gb').trans d0, (hb1.cell (p := ⟨b', off' + q * 6 + 1, none⟩) gb').trans d1, (hb1.cell (p := ⟨b', off' + q * 6 + 2, none⟩) gb').trans d2, (hb1.cell (p := ⟨b', off' + q * 6 + 3, none⟩) gb').trans d3, (hb1.cell (p := ⟨b', off' + q * 6 + 4, none⟩) gb').trans d4, (hb1.cell (p := ⟨b', off' + q * 6 + 5, none⟩) gb').trans d5⟩
      clear hb1
      refine hQ.out _ _ hS1 (fun hHeld => ?_)
      clear hQ
      try simp only [Act.put, List.setIfInBounds_toArray, List.set_cons_zero, List.set_cons_succ]
      refine takeL (i := 11) (v := ?_) rfl (by kernel_rfl) (by kernel_rfl) (by kernel_rfl) (fun _ _ _ h => h) (Or.inl ⟨by rfl, ?_⟩) (by assumption) ?_
      rotate_left
      focus (intro w hSw; obtain ⟨s0, s1, s2, s3, s4, s5, s6, s7, s8, s9, s10, s11, s12, s13⟩ := hSw; go_simp; try with_reducible rfl)
      try simp only [Act.put, List.setIfInBounds_toArray, List.set_cons_zero, List.set_cons_succ]
      refine wpAnyH_done (by kernel_rfl) ?_ _
      go_wp2_with fail
      go_ret
      exact ⟨ret_bool (by rw [Hres2.out, hf.out]), HK1.out⟩
    · have hg := hid (hgood.out rfl)
      clear hbad hgood
      go_upto_region 6 with fail
      refine wp_region_held_drew (S := fun W => W.cell? ⟨w.heap.size, 5, none⟩ = some (.slice (some ⟨b, off, none⟩) l.length cap) ∧ W.cell? ⟨w.heap.size + 1, 5, none⟩ = some (.slice (some ⟨b', off', none⟩) l'.length cap') ∧ W.cell? ⟨b, off + q * 6, none⟩ = some (.int .i64 kd) ∧ W.cell? ⟨b, off + q * 6 + 1, none⟩ = some (.int .i64 xk) ∧ W.cell? ⟨b, off + q * 6 + 2, none⟩ = some (.int .i64 xt) ∧ W.cell? ⟨b, off + q * 6 + 3, none⟩ = some (.int .i64 xa) ∧ W.cell? ⟨b, off + q * 6 + 4, none⟩ = some (.int .i64 xn) ∧ W.cell? ⟨b, off + q * 6 + 5, none⟩ = some (.slice ka kl kc) ∧ W.cell? ⟨b', off' + q * 6, none⟩ = some (.int .i64 kd') ∧ W.cell? ⟨b', off' + q * 6 + 1, none⟩ = some (.int .i64 xk') ∧ W.cell? ⟨b', off' + q * 6 + 2, none⟩ = some (.int .i64 xt') ∧ W.cell? ⟨b', off' + q * 6 + 3, none⟩ = some (.int .i64 xa') ∧ W.cell? ⟨b', off' + q * 6 + 4, none⟩ = some (.int .i64 xn') ∧ W.cell? ⟨b', off' + q * 6 + 5, none⟩ = some (.slice ka' kl' kc')) (by kernel_rfl) ⟨y5, y5', e0, e1, e2, e3, e4, e5, d0, d1, d2, d3, d4, d5⟩ (fun hHeld => ?_)
      refine takeL (i := 0) (v := ?_) rfl (by kernel_rfl) (by kernel_rfl) (by kernel_rfl) (fun _ _ _ h => h) (Or.inl ⟨by rfl, ?_⟩) (by assumption) ?_
      rotate_left
      focus (intro w hSw; obtain ⟨s0, s1, s2, s3, s4, s5, s6, s7, s8, s9, s10, s11, s12, s13⟩ := hSw; go_simp; try with_reducible rfl)
      try simp only [Act.put, List.setIfInBounds_toArray, List.set_cons_zero, List.set_cons_succ]
      refine takeL (i := 1) (v := ?_) rfl (by kernel_rfl) (by kernel_rfl) (by kernel_rfl) (fun _ _ _ h => h) (Or.inl ⟨by rfl, ?_⟩) (by assumption) ?_
      rotate_left
      focus (intro w hSw; obtain ⟨s0, s1, s2, s3, s4, s5, s6, s7, s8, s9, s10, s11, s12, s13⟩ := hSw; go_simp; try with_reducible rfl)
      try simp only [Act.put, List.setIfInBounds_toArray, List.set_cons_zero, List.set_cons_succ]
      refine takeL (i := 2) (v := ?_) rfl (by kernel_rfl) (by kernel_rfl) (by kernel_rfl) (fun _ _ _ h => h) (Or.inl ⟨by rfl, ?_⟩) (by assumption) ?_
      rotate_left
      focus (intro w hSw; obtain ⟨s0, s1, s2, s3, s4, s5, s6, s7, s8, s9, s10, s11, s12, s13⟩ := hSw; go_simp; try with_reducible rfl)
      try simp only [Act.put, List.setIfInBounds_toArray, List.set_cons_zero, List.set_cons_succ]
      refine takeL (i := 3) (v := ?_) rfl (by kernel_rfl) (by kernel_rfl) (by kernel_rfl) (fun _ _ _ h => h) (Or.inl ⟨by rfl, ?_⟩) (by assumption) ?_
      rotate_left
      focus (intro w hSw; obtain ⟨s0, s1, s2, s3, s4, s5, s6, s7, s8, s9, s10, s11, s12, s13⟩ := hSw; go_simp; try with_reducible rfl)
      try simp only [Act.put, List.setIfInBounds_toArray, List.set_cons_zero, List.set_cons_succ]
      refine takeL (i := 4) (v := ?_) rfl (by kernel_rfl) (by kernel_rfl) (by kernel_rfl) (fun _ _ _ h => h) (Or.inl ⟨by rfl, ?_⟩) (by assumption) ?_
      rotate_left
      focus (intro w hSw; obtain ⟨s0, s1, s2, s3, s4, s5, s6, s7, s8, s9, s10, s11, s12, s13⟩ := hSw; go_simp; try with_reducible rfl)
      try simp only [Act.put, List.setIfInBounds_toArray, List.set_cons_zero, List.set_cons_succ]
      refine takeL (i := 5) (v := ?_) rfl (by kernel_rfl) (by kernel_rfl) (by kernel_rfl) (fun _ _ _ h => h) (Or.inl ⟨by rfl, ?_⟩) (by assumption) ?_
      rotate_left
      focus (intro w hSw; obtain ⟨s0, s1, s2, s3, s4, s5, s6, s7, s8, s9, s10, s11, s12, s13⟩ := hSw; go_simp; try with_reducible rfl)
      try simp only [Act.put, List.setIfInBounds_toArray, List.set_cons_zero, List.set_cons_succ]
      refine takeL (i := 6) (v := ?_) rfl (by kernel_rfl) (by kernel_rfl) (by kernel_rfl) (fun _ _ _ h => h) (Or.inl ⟨by rfl, ?_⟩) (by assumption) ?_
      rotate_left
      focus (intro w hSw; obtain ⟨s0, s1, s2, s3, s4, s5, s6, s7, s8, s9, s10, s11, s12, s13⟩ := hSw; go_simp; try with_reducible rfl)
      try simp only [Act.put, List.setIfInBounds_toArray, List.set_cons_zero, List.set_cons_succ]
      refine takeL (i := 7) (v := ?_) rfl (by kernel_rfl) (by kernel_rfl) (by kernel_rfl) (fun _ _ _ h => h) (Or.inl ⟨by rfl, ?_⟩) (by assumption) ?_
      rotate_left
      focus (intro w hSw; obtain ⟨s0, s1, s2, s3, s4, s5, s6, s7, s8, s9, s10, s11, s12, s13⟩ := hSw; go_simp; try with_reducible rfl)
      try simp only [Act.put, List.setIfInBounds_toArray, List.set_cons_zero, List.set_cons_succ]
      refine takeL (i := 8) (v := ?_) rfl (by kernel_rfl) (by kernel_rfl) (by kernel_rfl) (fun _ _ _ h => h) (Or.inl ⟨by rfl, ?_⟩) (by assumption) ?_
      rotate_left
      focus (intro w hSw; obtain ⟨s0, s1, s2, s3, s4, s5, s6, s7, s8, s9, s10, s11, s12, s13⟩ := hSw; go_simp; try with_reducible rfl)
      try simp only [Act.put, List.setIfInBounds_toArray, List.set_cons_zero, List.set_cons_succ]
      refine takeL (i := 9) (v := ?_) rfl (by kernel_rfl) (by kernel_rfl) (by kernel_rfl) (fun _ _ _ h => h) (Or.inl ⟨by rfl, ?_⟩) (by assumption) ?_
      rotate_left
      focus (intro w hSw; obtain ⟨s0, s1, s2, s3, s4, s5, s6, s7, s8, s9, s10, s11, s12, s13⟩ := hSw; go_simp; try with_reducible rfl)
      try simp only [Act.put, List.setIfInBounds_toArray, List.set_cons_zero, List.set_cons_succ]
      refine callL (i := 10) (by kernel_rfl) rfl (fun K hQ => ?_)
      go_simp
      go_at_call 13
      with_reducible refine (hcall.out wr.drew (Below.refl _ _).drew).mono ?_
      rintro e x1 ⟨rfl, hb1⟩
      have HK1 := hid (HK0.out.trans (((Below.refl _ wr).drew.trans hb1).mono HK0.out.size))
      have hS1 : x1.cell? ⟨w.heap.size, 5, none⟩ = some (.slice (some ⟨b, off, none⟩) l.length cap) ∧ x1.cell? ⟨w.heap.size + 1, 5, none⟩ = some (.slice (some ⟨b', off', none⟩) l'.length cap') ∧ x1.cell? ⟨b, off + q * 6, none⟩ = some (.int .i64 kd) ∧ x1.cell? ⟨b, off + q * 6 + 1, none⟩ = some (.int .i64 xk) ∧ x1.cell? ⟨b, off + q * 6 + 2, none⟩ = some (.int .i64 xt) ∧ x1.cell? ⟨b, off + q * 6 + 3, none⟩ = some (.int .i64 xa) ∧ x1.cell? ⟨b, off + q * 6 + 4, none⟩ = some (.int .i64 xn) ∧ x1.cell? ⟨b, off + q * 6 + 5, none⟩ = some (.slice ka kl kc) ∧ x1.cell? ⟨b', off' + q * 6, none⟩ = some (.int .i64 kd') ∧ x1.cell? ⟨b', off' + q * 6 + 1, none⟩ = some (.int .i64 xk') ∧ x1.cell? ⟨b', off' + q * 6 + 2, none⟩ = some (.int .i64 xt') ∧ x1.cell? ⟨b', off' + q * 6 + 3, none⟩ = some (.int .i64 xa') ∧ x1.cell? ⟨b', off' + q * 6 + 4, none⟩ = some (.int .i64 xn') ∧ x1.cell? ⟨b', off' + q * 6 + 5, none⟩ = some (.slice ka' kl' kc') :=
        ⟨(hb1.cell (p := ⟨w.heap.size, 5, none⟩) gw).trans y5, (hb1.cell (p := ⟨w.heap.size + 1, 5, none⟩) gw').trans y5', (hb1.cell (p := ⟨b, off + q * 6, none⟩) gb).trans e0, (hb1.cell (p := ⟨b, off + q * 6 + 1, none⟩) gb).trans e1, (hb1.cell (p := ⟨b, off + q * 6 + 2, none⟩) gb).trans e2, (hb1.cell (p := ⟨b, off + q * 6 + 3, none⟩) gb).trans e3, (hb1.cell (p := ⟨b, off + q * 6 + 4, none⟩) gb).trans e4, (hb1.cell (p := ⟨b, off + q * 6 + 5, none⟩) gb).trans e5, (hb1.cell (p := ⟨b', off' + q * 6, none⟩) gb').trans d0, (hb1.cell (p := ⟨b', off' + q * 6 + 1, none⟩) gb').trans d1, (hb1.cell (p := ⟨b', off' + q * 6 + 2, none⟩) gb').trans d2, (hb1.cell (p := ⟨b', off' + q * 6 + 3, none⟩) gb').trans d3, (hb1.cell (p := ⟨b', off' + q * 6 + 4, none⟩) gb').trans d4, (hb1.cell (p := ⟨b', off' + q * 6 + 5, none⟩) gb').trans d5⟩
      clear hb1
      refine hQ.out _ _ hS1 (fun hHeld => ?_)
      clear hQ
      try simp only [Act.put, List.setIfInBounds_toArray, List.set_cons_zero, List.set_cons_succ]
      refine takeL (i := 11) (v := ?_) rfl (by kernel_rfl) (by kernel_rfl) (by kernel_rfl) (fun _ _ _ h => h) (Or.inl ⟨by rfl, ?_⟩) (by assumption) ?_
      rotate_left
      focus (intro w hSw; obtain ⟨s0, s1, s2, s3, s4, s5, s6, s7, s8, s9, s10, s11, s12, s13⟩ := hSw; go_simp; try with_reducible rfl)
      try simp only [Act.put, List.setIfInBounds_toArray, List.set_cons_zero, List.set_cons_succ]
      refine wpAnyH_done (by kernel_rfl) ?_ _
      go_wp2_with fail
      go_roundw
      case rel => exact ⟨q + 1, by omega, by simp, hg, HK1⟩
      case measure => simp [intOf]; omega
theorem rsame_all : ∀ (n : Nat) (x : Fm), x.size ≤ n → RSaF x
  | 0, .mk k p l, h => by rw [Fm.size_eq] at h; omega
  | n + 1, .mk k p l, h => rsamF_step k p l fun x hx => rsame_all n x (by have := sizeL_mem x hx; rw [Fm.size_eq] at h; omega)
theorem rsame_any (x : Fm) : RSaF x := rsame_all x.size x (Nat.le_refl _)
end Go.Proofs.YtogopcejapklgaaGreatDoor
