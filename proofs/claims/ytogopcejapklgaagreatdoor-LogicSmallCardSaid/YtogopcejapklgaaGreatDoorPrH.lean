/- The parser takes a formula's parts, in brackets. -/
import Derived.Test.YtogopcejapklgaaGreatDoorPrG
import Derived.Test.YtogopcejapklgaaGreatDoorPrD
namespace Go.Proofs.YtogopcejapklgaaGreatDoor
open Go.RowKit

namespace KSt
variable {base : Nat} {w x y : World} {P B bp bw : Nat} {wi k : Int} {v v' : Value} {l l' : List Fm}
theorem rebase (h : KSt base w x P B bp bw wi k v l) : KSt base x x P B bp bw wi k v l := ⟨.refl _ _ _ _, h.hB, h.kd, h.sz, h.lt, h.bp, h.bw⟩
theorem renew (h : KSt base w x P B bp bw wi k v l) (hb : But3 base x y P B) (hB : y.heap[B]? = some (fmO k Pr.zero v')) (hk : Kds y base v' l') : KSt base y y P B bp bw wi k v' l' :=
  ⟨.refl _ _ _ _, hB, hk, Nat.le_trans h.sz hb.size, h.lt, ⟨(World.cell?_of_block (w := x) (a := ⟨bp, 0, none⟩) (hb.block bp h.bp.2.1 h.bp.2.2.1 h.bp.2.2.2)).trans h.bp.1, h.bp.2⟩,
    ⟨(World.cell?_of_block (w := x) (a := ⟨bw, 0, none⟩) (hb.block bw h.bw.2.1 h.bw.2.2.1 h.bw.2.2.2)).trans h.bw.1, h.bw.2⟩⟩
end KSt
/-- So many parts, and what shuts the brackets. -/
def kidsQ (d m c : Nat) (L : List Tok) : Rs (List Fm × List Tok × Nat) :=
  match kidsL (parL d) m [40] c L with
  | .bad e i => .bad e i
  | .ok (r, L1, c1) => match shutP m L1 with
    | .bad e i => .bad e i
    | .ok L2 => .ok (r, L2, c1)
def KidsPost (base : Nat) (w : World) (P B : Nat) (k : Int) (d m c : Nat) (L : List Tok) (e : Ending) (w' : World) : Prop :=
  match kidsQ d m c L with
  | .ok (r, L2, c2) => e = .returned (.tuple #[]) ∧ (∃ A cap, w'.heap[B]? = some (fmO k Pr.zero (.slice A m cap)) ∧ Kds w' base (.slice A m cap) r) ∧ PBox w' P L2 c2 ∧ But3 base w w' P B
  | .bad er i => e = wrongP er i ∧ But3 base w w' P B

/-- Behind so many rounds. -/
structure KRd (base : Nat) (w x : World) (P B bp bw d m c : Nat) (wi k : Int) (L : List Tok) (j : Nat) (A : Option Addr) (cap : Nat) (l : List Fm) (L1 : List Tok) (c1 : Nat) : Prop where
  st : KSt base x x P B bp bw wi k (.slice A j cap) l
  but : But3 base w x P B
  len : l.length = j
  box : PBox x P L1 c1
  ends : Ends L1
  tn : Tn L1
  le : c1 ≤ 200
  eq : kidsL (parL d) m [40] c L = appR l (kidsL (parL d) (m - j) [sgC j] c1 L1)

set_option maxRecDepth 100000 in
set_option maxHeartbeats 4000000 in
theorem listK_any (base : Nat) (P B bp bw d m c : Nat) (wi k : Int) (L : List Tok) (w : World) (hF : FormAt d) (hwi : wi = 19 - d) (hd : d ≤ 19) (hc : c ≤ 200) (hS : KSt base w w P B bp bw wi k (.slice none 0 0) []) (hm : m ≤ 2) (hP : PBox w P L c) (hE : Ends L) (hT : Tn L) :
    Calls Tryz.prog 47 #[.pointer (some ⟨P, 0, none⟩), .int .i64 m, .func (.func 48) #[] #[.pointer (some ⟨B, 0, none⟩), .pointer (some ⟨bp, 0, none⟩), .pointer (some ⟨bw, 0, none⟩)]] w (KidsPost base w P B k d m c L) := by
  have H0 : Hid (KRd base w w P B bp bw d m c wi k L 0 none 0 [] L c) := ⟨hS, .refl _ _ _ _, rfl, hP, hE, hT, hc, by rw [appR_nil]; rfl⟩
  have HF := hid hF
  have Hwi := hid hwi
  have hPlt := hS.lt
  clear hF hwi hc hS hP hE hT
  go_enter Tryz.func47, Tryz.ntmps47
  go_wp2_with fail
  go_loopw [6, 9] (fun sg i wr => ∃ (j : Nat) (A : Option Addr) (cap : Nat) (l : List Fm) (L1 : List Tok) (c1 : Nat), j ≤ m ∧ i = .int .i64 j ∧ sg = .string ⟨#[sgC j]⟩ ∧ Hid (KRd base w wr P B bp bw d m c wi k L j A cap l L1 c1)) (fun _ i _ => m - (intOf i).toNat)
  case atStart => exact ⟨0, none, 0, [], L, c, Nat.zero_le _, rfl, rfl, H0⟩
  case round =>
    obtain ⟨j, A, cap, l, L1, c1, hj, rfl, rfl, hR⟩ := hrel
    have R := hR.out
    have hneed := need_any P L1 c1 (sgC j) wr R.box R.ends
    unfold NeedPost at hneed
    by_cases hlt : j < m
    · have hjm : m - j = (m - (j + 1)) + 1 := by omega
      have hQ1 := R.eq
      rw [hjm] at hQ1
      cases hnd : needP [sgC j] L1 with
      | bad er pl =>
        rw [hnd] at hneed
        rw [kidsL_need hnd, appR_bad] at hQ1
        have hq : kidsQ d m c L = .bad er pl := by unfold kidsQ; rw [hQ1]
        have hfin : Hid (∀ w', wr.grownBy w' (some P) → KidsPost base w P B k d m c L (wrongP er pl) w') := fun w' hg => by
          unfold KidsPost; rw [hq]; exact ⟨rfl, R.but.trans (.of hg R.st.sz (fun k e => .inl (Option.some.inj e).symm) B)⟩
        have hneed := hid hneed
        clear hq hQ1 hnd hjm R hR H0
        go_wp2_with (first
          | (go_at_call 80
             with_reducible refine hneed.out.mono ?_
             rintro e w1 ⟨rfl, hg⟩)
          | fail)
        exact ⟨rfl, hfin.out _ hg⟩
      | ok L2 =>
        rw [hnd] at hneed
        obtain ⟨-, -, rfl, hL2⟩ := needP_ok R.ends hnd
        have hneed := hid hneed
        have hT2 := hL2.tn R.tn
        cases hpar : parL d c1 L1.tail with
        | bad er pl =>
          rw [kidsL_bad hnd hpar, appR_bad] at hQ1
          have hq : kidsQ d m c L = .bad er pl := by unfold kidsQ; rw [hQ1]
          have hkid : Hid (∀ w1, PBox w1 P L1.tail c1 → wr.grownBy w1 (some P) → Calls Tryz.prog 48 #[.int .i64 j, .pointer (some ⟨B, 0, none⟩), .pointer (some ⟨bp, 0, none⟩), .pointer (some ⟨bw, 0, none⟩)] w1 (fun e w2 => e = wrongP er pl ∧ KidsPost base w P B k d m c L (wrongP er pl) w2)) := fun w1 hP2 hg => by
            refine (kid_bad base P B bp bw j d c1 j wi k A cap l L1.tail w1 HF.out Hwi.out hd R.le (R.st.grown hg fun k e => (Option.some.inj e).symm).rebase R.len (by omega) hP2 hL2.ends hT2 er pl hpar).mono ?_
            intro e w2 hK
            unfold KidPost at hK
            rw [hpar] at hK
            refine ⟨hK.1, ?_⟩
            unfold KidsPost; rw [hq]
            exact ⟨rfl, (R.but.trans (.of hg R.st.sz (fun k e => .inl (Option.some.inj e).symm) B)).trans hK.2⟩
          clear hq hQ1 hnd hjm R hR H0 hpar hT2 hL2
          go_wp2_with (first
            | (go_at_call 80
               with_reducible refine hneed.out.mono ?_
               rintro e w1 ⟨rfl, hP2, hg⟩)
            | (go_at_call 48
               with_reducible refine (hkid.out _ hP2 hg).mono ?_
               rintro e w2 ⟨rfl, hfin⟩
               have hfin := hid hfin)
            | fail)
          exact ⟨rfl, hfin.out⟩
        | ok x =>
          obtain ⟨f, L3, c3⟩ := x
          rw [kidsL_step hnd hpar, appR_app] at hQ1
          obtain ⟨hsp, -⟩ := parL_spec d c1 L1.tail hL2.ends hT2
          obtain ⟨p1, p2, p3, p4⟩ := hsp _ _ _ hpar
          have hkid : Hid (∀ w1, PBox w1 P L1.tail c1 → wr.grownBy w1 (some P) → Calls Tryz.prog 48 #[.int .i64 j, .pointer (some ⟨B, 0, none⟩), .pointer (some ⟨bp, 0, none⟩), .pointer (some ⟨bw, 0, none⟩)] w1 (fun e w2 => e = .returned (.tuple #[]) ∧ ∃ A2 cap2, KRd base w w2 P B bp bw d m c wi k L (j + 1) A2 cap2 (l ++ [f]) L3 c3)) := fun w1 hP2 hg => by
            have hst1 := (R.st.grown hg fun k e => (Option.some.inj e).symm).rebase
            refine (kid_ok base P B bp bw j d c1 j wi k A cap l L1.tail w1 HF.out Hwi.out hd R.le hst1 R.len (by omega) hP2 hL2.ends hT2 f L3 c3 hpar).mono ?_
            intro e w2 hK
            unfold KidPost at hK
            rw [hpar] at hK
            obtain ⟨k1, ⟨A2, cap2, k2, k3⟩, k4, k5⟩ := hK
            exact ⟨k1, A2, cap2, hst1.renew k5 k2 k3, (R.but.trans (.of hg R.st.sz (fun k e => .inl (Option.some.inj e).symm) B)).trans k5, by simp [R.len], k4, p1.ends, p1.tn hT2, p4, hQ1⟩
          clear hQ1 hnd hjm R hR H0 hpar hT2 hL2 hsp p1 p2 p3 p4
          go_wp2_with (first
            | (go_at_call 80
               with_reducible refine hneed.out.mono ?_
               rintro e w1 ⟨rfl, hP2, hg⟩)
            | (go_at_call 48
               with_reducible refine (hkid.out _ hP2 hg).mono ?_
               rintro e w2 ⟨rfl, A2, cap2, hK⟩
               have hK2 := hid hK
               clear hK)
            | fail)
          go_roundw
          case rel => exact ⟨j + 1, A2, cap2, _, _, _, by omega, by go_num, rfl, hK2⟩
          case measure => simp [intOf]; omega
    · obtain rfl : j = m := by omega
      clear hneed
      have hQ1 := R.eq
      rw [Nat.sub_self] at hQ1
      simp only [kidsL, appR, List.append_nil] at hQ1
      by_cases h0 : j = 0
      · subst h0
        have hq : kidsQ d 0 c L = .ok (l, L1, c1) := by unfold kidsQ; rw [hQ1]; rfl
        have hfin : Hid (KidsPost base w P B k d 0 c L (.returned (.tuple #[])) wr) := by unfold KidsPost; rw [hq]; exact ⟨rfl, ⟨_, _, R.st.hB, R.st.kd⟩, R.box, R.but⟩
        clear hq hQ1 R hR H0
        go_wp2_with fail
        go_end0
        exact hfin.out
      · have hneed := need_any P L1 c1 41 wr R.box R.ends
        unfold NeedPost at hneed
        have hl := R.st.lt
        cases hnd : needP [41] L1 with
        | bad er pl =>
          rw [hnd] at hneed
          have hq : kidsQ d j c L = .bad er pl := by unfold kidsQ; rw [hQ1]; simp only [shutP]; rw [if_neg h0, hnd]
          have hfin : Hid (∀ w', wr.grownBy w' (some P) → KidsPost base w P B k d j c L (wrongP er pl) w') := fun w' hg => by
            unfold KidsPost; rw [hq]; exact ⟨rfl, R.but.trans (.of hg R.st.sz (fun k e => .inl (Option.some.inj e).symm) B)⟩
          have hneed := hid hneed
          clear hq hQ1 hnd R hR H0
          go_wp2_with (first
            | (go_at_call 80
               with_reducible refine hneed.out.mono ?_
               rintro e w1 ⟨rfl, hg⟩)
            | fail)
          exact ⟨rfl, hfin.out _ hg⟩
        | ok L2 =>
          rw [hnd] at hneed
          have hq : kidsQ d j c L = .ok (l, L2, c1) := by unfold kidsQ; rw [hQ1]; simp only [shutP]; rw [if_neg h0, hnd]
          have hfin : Hid (∀ w', PBox w' P L2 c1 → wr.grownBy w' (some P) → KidsPost base w P B k d j c L (.returned (.tuple #[])) w') := fun w' hP2 hg => by
            have hst1 := R.st.grown hg fun k e => (Option.some.inj e).symm
            unfold KidsPost; rw [hq]; exact ⟨rfl, ⟨_, _, hst1.hB, hst1.kd⟩, hP2, R.but.trans (.of hg R.st.sz (fun k e => .inl (Option.some.inj e).symm) B)⟩
          have hneed := hid hneed
          clear hq hQ1 hnd R hR H0
          go_wp2_with (first
            | (go_at_call 80
               with_reducible refine hneed.out.mono ?_
               rintro e w1 ⟨rfl, hP2, hg⟩)
            | fail)
          go_end0
          exact hfin.out _ hP2 hg
end Go.Proofs.YtogopcejapklgaaGreatDoor
