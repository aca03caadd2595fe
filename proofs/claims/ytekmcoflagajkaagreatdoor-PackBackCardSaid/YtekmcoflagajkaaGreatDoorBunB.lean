/- Two states of one code: the document's Same tells whether they hold the same. -/
import Derived.Test.YtekmcoflagajkaaGreatDoorBunV
import Derived.Test.YtekmcoflagajkaaGreatDoorBunU
import Derived.Test.YtekmcoflagajkaaGreatDoorBunM
import Derived.Test.YtekmcoflagajkaaGreatDoorArrEq
import Derived.BigQuiet
import Derived.Deep.QuietTactic
import Derived.Deep.RegionHeld3
import Derived.Test.YtekmcoflagajkaaGreatDoorBunZ
import Derived.Deep.CutRange
namespace Go.Proofs.YtekmcoflagajkaaGreatDoor
open Go.RowKit

/-- Same tells whether two states hold the same. -/
def SmPost (w : World) (th th' : List Thr) (mem mem' : List Int) (bad bad' : Bool) (e : Ending) (w' : World) : Prop :=
  ∃ r : Bool, e = .returned (.bool r) ∧ (r = true ↔ (th = th' ∧ mem = mem' ∧ bad = bad')) ∧ Below w.heap.size w w'

set_option maxRecDepth 100000 in
set_option maxHeartbeats 8000000 in
theorem stSame_dec (ah ah' : Option Addr) (caph caph' : Nat) (th th' : List Thr) (am am' : Option Addr) (capm capm' : Nat) (mem mem' : List Int) (bad bad' : Bool) (w : World) (htl : th'.length = th.length) (hml : mem'.length = mem.length)
    (hh : ThrIn w (In_ w) ah th.length caph th) (hm : IntIn w (In_ w) am mem.length capm mem) (hh' : ThrIn w (In_ w) ah' th.length caph' th') (hm' : IntIn w (In_ w) am' mem.length capm' mem') :
    Calls Tryz.prog 15 #[.agg #[.slice ah th.length caph, .slice am mem.length capm, .bool bad], .agg #[.slice ah' th.length caph', .slice am' mem.length capm', .bool bad']] w
      (SmPost w th th' mem mem' bad bad') := by
  have l7 := hh'.le
  have l9 := hm'.2.le
  rw [htl] at l7
  rw [hml] at l9
  have l3 := hh.le
  have l4 := hh.mx
  have l5 := hm.2.le
  have l6 := hm.2.mx
  have l8 := hh'.mx
  have l10 := hm'.2.mx
  unfold maxLen at l4 l6 l8 l10
  obtain ⟨W0, hW⟩ : ∃ W0, W0 = (w.alloc (.cells #[.slice ah th.length caph, .slice am mem.length capm, .bool bad] 34)).alloc (.cells #[.slice ah' th.length caph', .slice am' mem.length capm', .bool bad'] 34) := ⟨_, rfl⟩
  have hB : Below w.heap.size w W0 := by subst hW; exact ((Below.refl _ _).alloc (Nat.le_refl _) _).alloc (by simp) _
  have z1 : w.heap.size + 1 < W0.heap.size := by subst hW; simp
  have z0 : w.heap.size < W0.heap.size := by omega
  have s0 : W0.cell? ⟨w.heap.size, 0, none⟩ = some (.slice ah th.length caph) := by subst hW; go_simp
  have s1 : W0.cell? ⟨w.heap.size, 1, none⟩ = some (.slice am mem.length capm) := by subst hW; go_simp
  have s2 : W0.cell? ⟨w.heap.size, 2, none⟩ = some (.bool bad) := by subst hW; go_simp
  have s3 : W0.cell? ⟨w.heap.size + 1, 0, none⟩ = some (.slice ah' th.length caph') := by subst hW; go_simp
  have s4 : W0.cell? ⟨w.heap.size + 1, 1, none⟩ = some (.slice am' mem.length capm') := by subst hW; go_simp
  have s5 : W0.cell? ⟨w.heap.size + 1, 2, none⟩ = some (.bool bad') := by subst hW; go_simp
  have hh0 := hid ((Kp.of hB).thr hh)
  have hm0 := hid ((Kp.of hB).ints hm)
  have hh1 := hid ((Kp.of hB).thr hh')
  have hm1 := hid ((Kp.of hB).ints hm')
  have HB := hid hB
  have hWx := hid hW
  have Htl := hid htl
  have Hml := hid hml
  clear hW hB hh hm hh' hm' htl hml
  by_cases hbd : bad = bad'
  rotate_left
  · have hbb : (bad == bad') = false := by simpa using hbd
    have hF : Hid (¬ (th = th' ∧ mem = mem' ∧ bad = bad')) := fun h => hbd h.2.2
    have hfin := hid (Kp.fin HB.out (Kp.refl W0))
    clear hbd
    go_enter Tryz.func15, Tryz.ntmps15
    go_wp2_with fail
    rw [← hWx.out]
    go_ret
    exact ⟨false, rfl, ⟨fun h => (by cases h), fun h => absurd (by simpa using h) hF.out⟩, hfin.out⟩
  subst hbd
  have hbb : (bad != bad) = false := by cases bad <;> rfl
  go_enter Tryz.func15, Tryz.ntmps15
  go_wp2_with fail
  rw [← hWx.out]
  go_loopw [5] (fun i wr => ∃ k : Nat, k ≤ mem.length ∧ i = .int .i64 k ∧ Hid (mem.take k = mem'.take k) ∧ Kp W0 wr) (fun i _ => mem.length - (intOf i).toNat)
  case atStart => exact ⟨0, Nat.zero_le _, rfl, rfl, Kp.refl _⟩
  case round =>
    obtain ⟨k, hk, rfl, htk, hK⟩ := hrel
    by_cases hlt : k < mem.length
    · have hlt' : k < mem'.length := by have := Hml.out; omega
      obtain ⟨bb, off, rfl, hbb', e0⟩ := hm0.out.at_ k hlt
      obtain ⟨bc, off', rfl, hbc, e1⟩ := hm1.out.at_ k hlt'
      have hts : Hid (mem[k] = mem'[k] → mem.take (k + 1) = mem'.take (k + 1)) := fun h => by
        rw [List.take_succ_eq_append_getElem hlt, List.take_succ_eq_append_getElem hlt', htk.out, h]
      have hne : Hid (mem[k] ≠ mem'[k] → ¬ (th = th' ∧ mem = mem' ∧ bad = bad)) := fun h => fun hh => h (by
        have := hh.2.1
        subst this
        rfl)
      generalize mem[k] = n at *
      generalize mem'[k] = n' at *
      have hl1 := hbb'.lt
      have hl2 := hbc.lt
      have k0 : (0 : Int) ≤ k := by omega
      have k1 : (k : Int) < mem.length := by omega
      by_cases hnn : n = n'
      · subst hnn
        have hts2 := hid (hts.out rfl)
        clear hts
        have hnn : (n != n) = false := bne_self_eq_false _
        go_wp2_with fail
        go_quiet (fail)
        go_wp2
        go_roundw
        case rel => exact ⟨k + 1, by omega, by simp, hts2, drewN_kp hK nq⟩
        case measure => simp [intOf]; omega
      · have hF := hid (hne.out hnn)
        have hnn : (n != n') = true := by simpa using hnn
        have HK := hid hK
        go_wp2_with fail
        go_quiet (fail)
        have hfin := hid (Kp.fin HB.out (drewN_kp HK.out nq))
        go_wp2_with fail
        go_ret
        exact ⟨false, rfl, ⟨fun h => (by cases h), fun h => absurd (by simpa using h) hF.out⟩, hfin.out⟩
    · obtain rfl : k = mem.length := by omega
      have hme : Hid (mem = mem') := by
        have h := htk.out
        rw [List.take_length, List.take_of_length_le (by rw [Hml.out]; exact Nat.le_refl _)] at h
        exact h
      go_wp2_with fail
      obtain ⟨wo, rfl⟩ : ∃ wo : World, wo = wr := ⟨_, rfl⟩
      go_loopw [6] (fun i wr => ∃ k : Nat, k ≤ th.length ∧ i = .int .i64 k ∧ Hid (th.take k = th'.take k) ∧ Kp W0 wr) (fun i _ => th.length - (intOf i).toNat)
      case atStart => exact ⟨0, Nat.zero_le _, rfl, rfl, hK⟩
      case round =>
        clear hK htk
        obtain ⟨k, hk, rfl, htk, hK⟩ := hrel
        by_cases hlt : k < th.length
        · have hlt' : k < th'.length := by have := Htl.out; omega
          obtain ⟨bb, off, ar, kr, rfl, hb1, ⟨f0, f1, f2⟩, ⟨f3, f4, f5⟩, hen⟩ := hh0.out.at_ k hlt
          obtain ⟨bc, off', ar', kr', rfl, hb2, ⟨g0, g1, g2⟩, ⟨g3, g4, g5⟩, hen'⟩ := hh1.out.at_ k hlt'
          have hts : Hid (th[k] = th'[k] → th.take (k + 1) = th'.take (k + 1)) := fun h => by
            rw [List.take_succ_eq_append_getElem hlt, List.take_succ_eq_append_getElem hlt', htk.out, h]
          have hne : Hid (th[k] ≠ th'[k] → ¬ (th = th' ∧ mem = mem' ∧ bad = bad)) := fun h => fun hh => h (by
            have := hh.1
            subst this
            rfl)
          generalize th[k] = x at *
          generalize th'[k] = y at *
          obtain ⟨pc, r0, r1, r2, r3, buf⟩ := x
          obtain ⟨pd, q0, q1, q2, q3, bug⟩ := y
          simp only at f0 f1 f2 f3 f4 f5 hen g0 g1 g2 g3 g4 g5 hen'
          have hl1 := hb1.lt
          have hl2 := hb2.lt
          have k0 : (0 : Int) ≤ k := by omega
          have k1 : (k : Int) < th.length := by omega
          have Hen := hid hen
          have Hen' := hid hen'
          have hmb : Hid (∀ c c' : Bool, (pc == pd) = c → (r0 == q0 && (r1 == q1 && (r2 == q2 && r3 == q3))) = c' → c = true → c' = true → buf = bug → (⟨pc, r0, r1, r2, r3, buf⟩ : Thr) = ⟨pd, q0, q1, q2, q3, bug⟩) := fun c c' h1 h2 h3 h4 h5 => by
            subst h3 h4 h5
            simp at h1 h2
            obtain ⟨rfl, rfl, rfl, rfl⟩ := h2
            subst h1
            rfl
          have hmc : Hid ((pc == pd) = false → (⟨pc, r0, r1, r2, r3, buf⟩ : Thr) ≠ ⟨pd, q0, q1, q2, q3, bug⟩) := fun h1 h => by
            injection h with h; subst h; simp at h1
          have hmd : Hid ((r0 == q0 && (r1 == q1 && (r2 == q2 && r3 == q3))) = false → (⟨pc, r0, r1, r2, r3, buf⟩ : Thr) ≠ ⟨pd, q0, q1, q2, q3, bug⟩) := fun h1 h => by
            injection h with h ha hb hc hd; subst ha hb hc hd; simp at h1
          have hae := arr_eq r0 r1 r2 r3 q0 q1 q2 q3
          generalize hrr : (r0 == q0 && (r1 == q1 && (r2 == q2 && r3 == q3))) = cr at *
          generalize hpp : (pc == pd) = cp at *
          have hnp : (pc != pd) = !cp := by rw [← hpp]; rfl
          have hmb := hid (hmb.out cp cr rfl rfl)
          clear hen hen' hrr hpp
          cases cp with
          | false =>
            have hF := hid (hne.out (hmc.out rfl))
            go_wp2_with fail
            go_region_held3 (Kp W0) (first | exact Kp.drew hK | exact Kp.alloc (Kp.alloc hK _) _ | exact Kp.alloc hK _ | exact Kp.drew (Kp.alloc (Kp.alloc hK _) _) | exact Kp.drew (Kp.alloc hK _)) (fail)
            all_goals
              go_wp2_with fail
              go_ret
              exact ⟨false, rfl, ⟨fun h => (by cases h), fun h => absurd (by simpa using h) hF.out⟩, Kp.fin HB.out (Kp.drew (Kp.alloc (Kp.alloc hK _) _))⟩
          | true =>
            cases cr with
            | false =>
              have hF := hid (hne.out (hmd.out rfl))
              go_wp2_with fail
              go_region_held3 (Kp W0) (first | exact Kp.drew hK | exact Kp.alloc (Kp.alloc hK _) _ | exact Kp.alloc hK _ | exact Kp.drew (Kp.alloc (Kp.alloc hK _) _) | exact Kp.drew (Kp.alloc hK _)) (fail)
              all_goals
                go_wp2_with fail
                go_ret
                exact ⟨false, rfl, ⟨fun h => (by cases h), fun h => absurd (by simpa using h) hF.out⟩, Kp.fin HB.out (Kp.drew (Kp.alloc (Kp.alloc hK _) _))⟩
            | true =>
              go_wp2_with fail
              go_region_held3 (Kp W0) (first | exact Kp.drew hK | exact Kp.alloc (Kp.alloc hK _) _ | exact Kp.alloc hK _ | exact Kp.drew (Kp.alloc (Kp.alloc hK _) _) | exact Kp.drew (Kp.alloc hK _)) (fail)
              all_goals
                have hK2 : Kp W0 (wr.drew) := Kp.drew hK
                go_wp2_with fail
                generalize hV : World.drew (World.alloc (World.alloc wr _) _) = V
                have hKV : Kp W0 V := by rw [← hV]; exact Kp.drew (Kp.alloc (Kp.alloc hK _) _)
                have hes := hid (enSame_any ar ar' buf.length kr bug.length kr' buf bug V (hKV.en Hen.out) (hKV.en Hen'.out))
                clear hV
                refine hes.out.mono ?_
                rintro e w9 ⟨rfl, hb9⟩
                have hK9 := hid (hKV.next hb9)
                clear hes hb9 hKV hK2 hae
                by_cases hbt : buf = bug
                · have hts2 := hid (hts.out (by first | exact hmb.out rfl rfl hbt | exact hmb.out trivial trivial hbt))
                  clear hts hmb
                  rw [decide_eq_true hbt]
                  go_wp2_with fail
                  go_roundw
                  case rel => exact ⟨k + 1, by omega, by simp, hts2, hK9.out⟩
                  case measure => simp [intOf]; omega
                · have hF := hid (hne.out fun h => hbt (by injection h))
                  have hfin := hid (Kp.fin HB.out hK9.out)
                  rw [decide_eq_false hbt]
                  go_wp2_with fail
                  go_ret
                  exact ⟨false, rfl, ⟨fun h => (by cases h), fun h => absurd (by simpa using h) hF.out⟩, hfin.out⟩
        · obtain rfl : k = th.length := by omega
          have hF : Hid (th = th' ∧ mem = mem' ∧ bad = bad) := ⟨by
            have h := htk.out
            rw [List.take_length, List.take_of_length_le (by rw [Htl.out]; exact Nat.le_refl _)] at h
            exact h, hme.out, rfl⟩
          have hfin := hid (Kp.fin HB.out hK)
          clear htk
          go_wp2_with fail
          go_ret
          exact ⟨true, rfl, ⟨fun _ => by have := hF.out; simpa using this, fun _ => rfl⟩, hfin.out⟩
end Go.Proofs.YtekmcoflagajkaaGreatDoor
namespace Go.Proofs.YtekmcoflagajkaaGreatDoor
open Go.RowKit

theorem packB_byte (th : List Thr) (mem : List Int) (bad : Bool) : ∀ x ∈ packB th mem bad, 0 ≤ x ∧ x < 256 := by
  have h8 : ∀ n : Int, 0 ≤ by8 n ∧ by8 n < 256 := fun n => by rw [by8_eq]; omega
  intro x hx
  unfold packB at hx
  simp only [List.mem_append, List.mem_singleton, List.mem_map, List.mem_flatMap] at hx
  rcases hx with (rfl | ⟨n, -, rfl⟩) | ⟨y, -, hx⟩
  · cases bad <;> simp
  · exact h8 n
  · unfold thrB bufB at hx
    simp only [List.mem_append, List.mem_cons, List.mem_flatMap, List.not_mem_nil, or_false] at hx
    rcases hx with ((hx | hx) | hx) | ⟨e, -, hx⟩
    · rcases hx with rfl | rfl <;> exact h8 _
    · rcases hx with rfl | rfl | rfl | rfl <;> exact h8 _
    · rw [hx]; exact h8 _
    · rcases hx with rfl | rfl <;> exact h8 _
/-- Unpack undoes Pack. -/
theorem unp_back {vars dom m b : Int} {t : List (List Ins)} {th : List Thr} {mem : List Int} {bad : Bool} (hf : fitsL vars dom t m b th mem = true) (hb : ∀ x ∈ th, x.buf.length ≤ 30) : unpS vars dom t m b (bytL (strOfNums (packB th mem bad))) = ((bad, mem, th), 0) := by
  obtain ⟨f1, f2, f3, -, -⟩ := fits_open hf
  obtain ⟨s1, s2⟩ := fits_small hf fun x hx => by have := hb x hx; omega
  rw [bytL_of _ (packB_byte th mem bad)]
  unfold unpS
  have hv : vars.toNat = mem.length := by omega
  rw [f1, hv, ← f2, unpL_packB s1 s2]
  simp only [if_true, hf]
/-- Unlike states have unlike bytes. -/
theorem pack_ne {vars dom m b : Int} {t : List (List Ins)} {th th' : List Thr} {mem mem' : List Int} {bad bad' : Bool} (hf : fitsL vars dom t m b th mem = true) (hb : ∀ x ∈ th, x.buf.length ≤ 30) (hf' : fitsL vars dom t m b th' mem' = true) (hb' : ∀ x ∈ th', x.buf.length ≤ 30)
    (e : strOfNums (packB th mem bad) = strOfNums (packB th' mem' bad')) : th = th' ∧ mem = mem' ∧ bad = bad' := by
  have h1 := unp_back (bad := bad) hf hb
  have h2 := unp_back (bad := bad') hf' hb'
  rw [e, h2] at h1
  injection h1 with h1 _
  injection h1 with h3 h4
  injection h4 with h4 h5
  exact ⟨h5.symm, h4.symm, h3.symm⟩

/-- A state, as it is handed. -/
structure Sv where
  a1 : Option Addr
  c1 : Nat
  th : List Thr
  a2 : Option Addr
  c2 : Nat
  mem : List Int
  bad : Bool
def SvIn (W : World) (S : Nat → Prop) (r : Sv) : Prop := ThrIn W S r.a1 r.th.length r.c1 r.th ∧ IntIn W S r.a2 r.mem.length r.c2 r.mem
theorem SvIn.keep {W W' : World} {S S' : Nat → Prop} {r : Sv} (h : SvIn W S r) (hk : ∀ b o, S b → W'.cell? ⟨b, o, none⟩ = W.cell? ⟨b, o, none⟩) (hS : ∀ b, S b → S' b) : SvIn W' S' r := ⟨(h.1.keep hk).widen hS, (h.2.keep hk).widen hS⟩
/-- What the region that walks twice has so far: the two boxes, the two states. -/
structure Bk (W0 W : World) (oa ob : Option Nat) (ra rb : Option Sv) (F : Sv → Prop) : Prop where
  kp : Kp W0 W
  ba : ∀ s, oa = some s → W0.heap.size ≤ s ∧ SBox W s (.slice none 0 0) (.slice none 0 0) false
  bb : ∀ s, ob = some s → W0.heap.size ≤ s ∧ SBox W s (.slice none 0 0) (.slice none 0 0) false
  ne : ∀ s, oa = some s → ob ≠ some s
  sa : ∀ r, ra = some r → F r ∧ SvIn W (fun k => k < W.heap.size ∧ oa ≠ some k ∧ ob ≠ some k) r
  sb : ∀ r, rb = some r → F r ∧ SvIn W (fun k => k < W.heap.size ∧ oa ≠ some k ∧ ob ≠ some k) r
section
variable {W0 W W' : World} {oa ob : Option Nat} {ra rb : Option Sv} {F : Sv → Prop}
theorem Bk.start (h : Kp W0 W) : Bk W0 W none none none none F := ⟨h, fun _ h => (by cases h), fun _ h => (by cases h), fun _ h => (by cases h), fun _ h => (by cases h), fun _ h => (by cases h)⟩
theorem Bk.keep (h : Bk W0 W oa ob ra rb F) (hb : Below W.heap.size W W') : Bk W0 W' oa ob ra rb F :=
  ⟨h.kp.next hb, fun s hs => ⟨(h.ba s hs).1, (h.ba s hs).2.block hb.size (hb.block _ (h.ba s hs).2.lt)⟩, fun s hs => ⟨(h.bb s hs).1, (h.bb s hs).2.block hb.size (hb.block _ (h.bb s hs).2.lt)⟩, h.ne,
    fun r hr => ⟨(h.sa r hr).1, (h.sa r hr).2.keep (fun b o hk => hb.cell (p := ⟨b, o, none⟩) hk.1) fun _ hk => ⟨Nat.lt_of_lt_of_le hk.1 hb.size, hk.2⟩⟩,
    fun r hr => ⟨(h.sb r hr).1, (h.sb r hr).2.keep (fun b o hk => hb.cell (p := ⟨b, o, none⟩) hk.1) fun _ hk => ⟨Nat.lt_of_lt_of_le hk.1 hb.size, hk.2⟩⟩⟩
theorem zero_box (W : World) : SBox (W.alloc (.cells #[.slice none 0 0, .slice none 0 0, .bool false] 34)) W.heap.size (.slice none 0 0) (.slice none 0 0) false := by
  have hcx := heap_alloc_new W (.cells #[.slice none 0 0, .slice none 0 0, .bool false] 34)
  exact ⟨by simp, cell_of_heap hcx, cell_of_heap hcx, cell_of_heap hcx, fun o => unfrozen hcx⟩
theorem Bk.allocA (h : Bk W0 W none ob ra rb F) : Bk W0 (W.alloc (.cells #[.slice none 0 0, .slice none 0 0, .bool false] 34)) (some W.heap.size) ob ra rb F := by
  have hb : Below W.heap.size W (W.alloc (.cells #[.slice none 0 0, .slice none 0 0, .bool false] 34)) := (Below.refl _ _).alloc (Nat.le_refl _) _
  have h1 := h.keep hb
  refine ⟨h1.kp, fun s hs => ?_, h1.bb, fun s hs e => ?_, fun r hr => ⟨(h.sa r hr).1, (h.sa r hr).2.keep (fun b o hk => hb.cell (p := ⟨b, o, none⟩) hk.1) fun b hk => ⟨Nat.lt_of_lt_of_le hk.1 hb.size, fun e => ?_, hk.2.2⟩⟩, fun r hr => ⟨(h.sb r hr).1, (h.sb r hr).2.keep (fun b o hk => hb.cell (p := ⟨b, o, none⟩) hk.1) fun b hk => ⟨Nat.lt_of_lt_of_le hk.1 hb.size, fun e => ?_, hk.2.2⟩⟩⟩
  · obtain rfl : W.heap.size = s := by simpa using hs
    exact ⟨h.kp.1.size, zero_box W⟩
  · obtain rfl : W.heap.size = s := by simpa using hs
    have := (h.bb _ e).2.lt
    omega
  · obtain rfl : W.heap.size = b := by simpa using e
    have := hk.1
    omega
  · obtain rfl : W.heap.size = b := by simpa using e
    have := hk.1
    omega
theorem Bk.allocB (h : Bk W0 W oa none ra rb F) : Bk W0 (W.alloc (.cells #[.slice none 0 0, .slice none 0 0, .bool false] 34)) oa (some W.heap.size) ra rb F := by
  have hb : Below W.heap.size W (W.alloc (.cells #[.slice none 0 0, .slice none 0 0, .bool false] 34)) := (Below.refl _ _).alloc (Nat.le_refl _) _
  have h1 := h.keep hb
  refine ⟨h1.kp, h1.ba, fun s hs => ?_, fun s hs e => ?_, fun r hr => ⟨(h.sa r hr).1, (h.sa r hr).2.keep (fun b o hk => hb.cell (p := ⟨b, o, none⟩) hk.1) fun b hk => ⟨Nat.lt_of_lt_of_le hk.1 hb.size, hk.2.1, fun e => ?_⟩⟩, fun r hr => ⟨(h.sb r hr).1, (h.sb r hr).2.keep (fun b o hk => hb.cell (p := ⟨b, o, none⟩) hk.1) fun b hk => ⟨Nat.lt_of_lt_of_le hk.1 hb.size, hk.2.1, fun e => ?_⟩⟩⟩
  · obtain rfl : W.heap.size = s := by simpa using hs
    exact ⟨h.kp.1.size, zero_box W⟩
  · obtain rfl : W.heap.size = s := by simpa using e
    have := (h.ba _ hs).2.lt
    omega
  · obtain rfl : W.heap.size = b := by simpa using e
    have := hk.1
    omega
  · obtain rfl : W.heap.size = b := by simpa using e
    have := hk.1
    omega
theorem walk_sv {vars dom m b : Int} {t : List (List Ins)} {e : Ending} (h : WalkPost W vars dom m b t e W') :
    ∃ r : Sv, e = .returned (.agg #[.slice r.a1 r.th.length r.c1, .slice r.a2 r.mem.length r.c2, .bool r.bad]) ∧ (fitsL vars dom t m b r.th r.mem = true ∧ ∀ x ∈ r.th, x.buf.length ≤ 30) ∧ SvIn W' (Nw W W') r ∧ Below W.heap.size W W' := by
  obtain ⟨a1, c1, th, a2, c2, mem, bad, rfl, h1, h2, h3, h4, h5⟩ := h
  exact ⟨⟨a1, c1, th, a2, c2, mem, bad⟩, rfl, ⟨h3, h4⟩, ⟨h1, h2⟩, h5⟩
theorem Bk.callA {vars dom m b : Int} {t : List (List Ins)} {e : Ending} (h : Bk W0 W oa ob none rb (fun r => fitsL vars dom t m b r.th r.mem = true ∧ ∀ x ∈ r.th, x.buf.length ≤ 30)) (hp : WalkPost W vars dom m b t e W') :
    ∃ r : Sv, e = .returned (.agg #[.slice r.a1 r.th.length r.c1, .slice r.a2 r.mem.length r.c2, .bool r.bad]) ∧ Bk W0 W' oa ob (some r) rb (fun r => fitsL vars dom t m b r.th r.mem = true ∧ ∀ x ∈ r.th, x.buf.length ≤ 30) := by
  obtain ⟨r, e, hF, hI, hb⟩ := walk_sv hp
  have h1 := h.keep hb
  refine ⟨r, e, h1.kp, h1.ba, h1.bb, h1.ne, fun q hq => ?_, h1.sb⟩
  obtain rfl : r = q := by simpa using hq
  exact ⟨hF, hI.keep (fun _ _ _ => rfl) fun k hk => ⟨hk.2, fun e => by have := (h.ba k e).2.lt; have := hk.1; omega, fun e => by have := (h.bb k e).2.lt; have := hk.1; omega⟩⟩
theorem Bk.callB {vars dom m b : Int} {t : List (List Ins)} {e : Ending} (h : Bk W0 W oa ob ra none (fun r => fitsL vars dom t m b r.th r.mem = true ∧ ∀ x ∈ r.th, x.buf.length ≤ 30)) (hp : WalkPost W vars dom m b t e W') :
    ∃ r : Sv, e = .returned (.agg #[.slice r.a1 r.th.length r.c1, .slice r.a2 r.mem.length r.c2, .bool r.bad]) ∧ Bk W0 W' oa ob ra (some r) (fun r => fitsL vars dom t m b r.th r.mem = true ∧ ∀ x ∈ r.th, x.buf.length ≤ 30) := by
  obtain ⟨r, e, hF, hI, hb⟩ := walk_sv hp
  have h1 := h.keep hb
  refine ⟨r, e, h1.kp, h1.ba, h1.bb, h1.ne, h1.sa, fun q hq => ?_⟩
  obtain rfl : r = q := by simpa using hq
  exact ⟨hF, hI.keep (fun _ _ _ => rfl) fun k hk => ⟨hk.2, fun e => by have := (h.ba k e).2.lt; have := hk.1; omega, fun e => by have := (h.bb k e).2.lt; have := hk.1; omega⟩⟩
end
/-- The region's end: the two states, each in its box. -/
def BkR (W0 W : World) (F : Sv → Prop) (va vb : Value) : Prop :=
  ∃ sa sb ra rb, va = .pointer (some ⟨sa, 0, none⟩) ∧ vb = .pointer (some ⟨sb, 0, none⟩) ∧ Kp W0 W ∧ SBox W sa (.slice ra.a1 ra.th.length ra.c1) (.slice ra.a2 ra.mem.length ra.c2) ra.bad ∧ SBox W sb (.slice rb.a1 rb.th.length rb.c1) (.slice rb.a2 rb.mem.length rb.c2) rb.bad ∧
    SvIn W (In_ W) ra ∧ SvIn W (In_ W) rb ∧ F ra ∧ F rb
theorem put_box {W : World} {sb : Nat} {v mv a c : Value} {bad bd : Bool} (h : SBox W sb v mv bad) : SBox (((W.setCell ⟨sb, 0, none⟩ a).setCell ⟨sb, 1, none⟩ c).setCell ⟨sb, 2, none⟩ (.bool bd)) sb a c bd := by
  obtain ⟨W3, e3, z0, z1, z2⟩ := three (a := a) (b := c) (c := .bool bd) h.c0 h.c1 h.c2
  refine ⟨by rw [three_size]; exact h.lt, by rw [← e3]; exact z0, by rw [← e3]; exact z1, by rw [← e3]; exact z2, fun o => frozen_set (frozen_set (frozen_set (h.f0 o)))⟩
theorem Bk.nes {W0 W : World} {sa sb : Nat} {ra rb : Option Sv} {F : Sv → Prop} (h : Bk W0 W (some sa) (some sb) ra rb F) : ¬ sa = sb ∧ ¬ sb = sa := ⟨fun e => h.ne sa rfl (by rw [e]), fun e => h.ne sa rfl (by rw [e])⟩
theorem Bk.fin {W0 W : World} {sa sb : Nat} {ra rb : Sv} {F : Sv → Prop} (h : Bk W0 W (some sa) (some sb) (some ra) (some rb) F) :
    BkR W0 ((((((W.setCell ⟨sa, 0, none⟩ (.slice ra.a1 ra.th.length ra.c1)).setCell ⟨sa, 1, none⟩ (.slice ra.a2 ra.mem.length ra.c2)).setCell ⟨sa, 2, none⟩ (.bool ra.bad)).setCell ⟨sb, 0, none⟩ (.slice rb.a1 rb.th.length rb.c1)).setCell ⟨sb, 1, none⟩ (.slice rb.a2 rb.mem.length rb.c2)).setCell ⟨sb, 2, none⟩ (.bool rb.bad)) F (.pointer (some ⟨sa, 0, none⟩)) (.pointer (some ⟨sb, 0, none⟩)) := by
  obtain ⟨ha1, ha2⟩ := h.ba sa rfl
  obtain ⟨hb1, hb2⟩ := h.bb sb rfl
  have hne : sb ≠ sa := fun e => h.ne sa rfl (by rw [e])
  obtain ⟨W1, e1⟩ : ∃ W1, W1 = ((W.setCell ⟨sa, 0, none⟩ (.slice ra.a1 ra.th.length ra.c1)).setCell ⟨sa, 1, none⟩ (.slice ra.a2 ra.mem.length ra.c2)).setCell ⟨sa, 2, none⟩ (.bool ra.bad) := ⟨_, rfl⟩
  rw [← e1]
  have k1 : Kp W0 W1 := by rw [e1]; exact Kp.of (three_below h.kp.1 ha1)
  have z1 : W1.heap.size = W.heap.size := by rw [e1, three_size]
  have c1 : ∀ k o, k ≠ sa → W1.cell? ⟨k, o, none⟩ = W.cell? ⟨k, o, none⟩ := fun k o hk => by rw [e1]; exact three_cell k o hk
  have a1 : SBox W1 sa (.slice ra.a1 ra.th.length ra.c1) (.slice ra.a2 ra.mem.length ra.c2) ra.bad := by rw [e1]; exact put_box ha2
  have b1 : SBox W1 sb (.slice none 0 0) (.slice none 0 0) false := by rw [e1]; exact hb2.block (by rw [three_size]; exact Nat.le_refl _) (three_heap sb hne)
  clear e1
  obtain ⟨W2, e2⟩ : ∃ W2, W2 = ((W1.setCell ⟨sb, 0, none⟩ (.slice rb.a1 rb.th.length rb.c1)).setCell ⟨sb, 1, none⟩ (.slice rb.a2 rb.mem.length rb.c2)).setCell ⟨sb, 2, none⟩ (.bool rb.bad) := ⟨_, rfl⟩
  rw [← e2]
  have k2 : Kp W0 W2 := by rw [e2]; exact Kp.of (three_below k1.1 hb1)
  have z2 : W2.heap.size = W1.heap.size := by rw [e2, three_size]
  have c2 : ∀ k o, k ≠ sb → W2.cell? ⟨k, o, none⟩ = W1.cell? ⟨k, o, none⟩ := fun k o hk => by rw [e2]; exact three_cell k o hk
  have b2 : SBox W2 sb (.slice rb.a1 rb.th.length rb.c1) (.slice rb.a2 rb.mem.length rb.c2) rb.bad := by rw [e2]; exact put_box b1
  have a2 : SBox W2 sa (.slice ra.a1 ra.th.length ra.c1) (.slice ra.a2 ra.mem.length ra.c2) ra.bad := by rw [e2]; exact a1.block (by rw [three_size]; exact Nat.le_refl _) (three_heap sa (fun e => hne e.symm))
  clear e2
  obtain ⟨fa, ia⟩ := h.sa ra rfl
  obtain ⟨fb, ib⟩ := h.sb rb rfl
  refine ⟨sa, sb, ra, rb, rfl, rfl, k2, a2, b2, ia.keep (fun k o hk => ?_) fun k hk => ?_, ib.keep (fun k o hk => ?_) fun k hk => ?_, fa, fb⟩
  · rw [c2 k o (fun e => hk.2.2 (by rw [e])), c1 k o (fun e => hk.2.1 (by rw [e]))]
  · show k < _; rw [z2, z1]; exact hk.1
  · rw [c2 k o (fun e => hk.2.2 (by rw [e])), c1 k o (fun e => hk.2.1 (by rw [e]))]
  · show k < _; rw [z2, z1]; exact hk.1

set_option maxRecDepth 100000 in
set_option maxHeartbeats 16000000 in
theorem packBack_walk (la : Option Addr) (ln lc : Nat) (n : Nat) (xa : Option Addr) (xn xc : Nat) (ya : Option Addr) (yn yc : Nat) (w : World) (hl : U8s w (In_ w) la ln lc) (hx : U8s w (In_ w) xa xn xc) (hy : U8s w (In_ w) ya yn yc) (hn : n < 256) :
    Calls Tryz.prog 4 #[.slice la ln lc, .int .u8 n, .slice xa xn xc, .slice ya yn yc] w fun e w' => e = .returned (.bool true) ∧ Below w.heap.size w w' := by
  have Hl := hid hl
  have Hx := hid hx
  have Hy := hid hy
  clear hl hx hy
  go_enter Tryz.func4, Tryz.ntmps4
  go_wp2_with fail
  refine (awake_any w).mono ?_
  rintro e w1 ⟨rfl, hb1⟩
  have HK1 := hid (Kp.of hb1)
  clear hb1
  go_wp2_with fail
  refine (kinds_any w1).mono ?_
  rintro e w2 ⟨rfl, hK2, hb2⟩
  have HK2 := hid (HK1.out.next hb2)
  have hl2 : U8s w2 (In_ w2) la ln lc := (Hl.out.keep fun b o hb => HK2.out.2 b o hb).widen (In_.mono HK2.out.1.size)
  have hmade := hid (madeC_any w2 la ln lc _ 13 13 hl2 hK2)
  clear hl2 hK2 hb2 Hl HK1
  go_wp2_with fail
  refine hmade.out.mono ?_
  intro e w3 hp3
  obtain ⟨p, n0, v, rfl, hright, -, -, -, hT, hn0, hn1, hb3⟩ := hp3
  obtain ⟨ta, tc, hv, hTh⟩ := hT.ths
  subst hv
  have HK3 := hid (HK2.out.next hb3)
  have hTh3 : ThsIn w3 (In_ w3) ta (cmpT p.ths).length tc (cmpT p.ths) := hTh.widen fun b hb => by
    rcases hb with hb | hb
    · have hb' : b < n0 := hb
      show b < _; omega
    · exact hb.2
  have HT3 := hid hTh3
  have wv : (Lit.int .i64 (p.vars.length : Int)).wf = true := by
    unfold rightP at hright
    simp only [Bool.and_eq_true, decide_eq_true_eq] at hright
    exact WalkArith.wf_i64 (by omega)
  have hrl := rightL_cmp hright
  clear hT hTh hTh3 hb3 hmade HK2 hright hn0 hn1
  generalize cmpT p.ths = T at *
  generalize (p.vars.length : Int) = vars at *
  generalize p.dom = dom at *
  go_wp2_with fail
  refine (machineR_any n hn w3).mono ?_
  rintro e w4 ⟨⟨m, b, rfl, hm0, hm2, hb1, hb8⟩, hb4⟩
  have hmay : Hid (mayL vars dom T m b = true) := by
    show _ = _
    unfold mayL
    simp only [hrl, hm0, hm2, hb1, hb8, decide_true, Bool.and_self]
  have HK4 := hid (HK3.out.next hb4)
  have HT4 := hid ((Kp.of hb4).ths HT3.out)
  clear hb4 HK3 HT3 hm0 hm2 hb1 hb8 hrl hn
  generalize hW : (w4.alloc (.cells #[.int .i64 vars, .int .i64 dom, .slice ta T.length tc] 25)).alloc (.cells #[.int .i64 m, .int .i64 b] 30) = W0
  have hB : Below w4.heap.size w4 W0 := by subst hW; exact ((Below.refl _ _).alloc (Nat.le_refl _) _).alloc (by simp) _
  have z0 : w4.heap.size < W0.heap.size := by subst hW; simp; omega
  have z1 : w4.heap.size + 1 < W0.heap.size := by subst hW; simp
  have c0 : W0.cell? ⟨w4.heap.size, 0, none⟩ = some (.int .i64 vars) := by subst hW; go_simp
  have c1 : W0.cell? ⟨w4.heap.size, 1, none⟩ = some (.int .i64 dom) := by subst hW; go_simp
  have c2 : W0.cell? ⟨w4.heap.size, 2, none⟩ = some (.slice ta T.length tc) := by subst hW; go_simp
  have m0 : W0.cell? ⟨w4.heap.size + 1, 0, none⟩ = some (.int .i64 m) := by subst hW; go_simp
  have m1 : W0.cell? ⟨w4.heap.size + 1, 1, none⟩ = some (.int .i64 b) := by subst hW; go_simp
  have HT0 := hid ((Kp.of hB).ths HT4.out)
  have HB := hid (HK4.out.next hB)
  have hWx := hid hW
  have hx0 : U8s W0 (In_ W0) xa xn xc := (Hx.out.keep fun b o hb => HB.out.2 b o hb).widen (In_.mono HB.out.1.size)
  have hy0 : U8s W0 (In_ W0) ya yn yc := (Hy.out.keep fun b o hb => HB.out.2 b o hb).widen (In_.mono HB.out.1.size)
  have hwx := hid (fun (W : World) (hK : Kp W0 W) => walk_any vars dom m b ta T.length tc T xa xn xc W (hK.ths HT0.out) ((hx0.keep fun b o hb => hK.2 b o hb).widen (In_.mono hK.1.size)) hmay.out)
  have hwy := hid (fun (W : World) (hK : Kp W0 W) => walk_any vars dom m b ta T.length tc T ya yn yc W (hK.ths HT0.out) ((hy0.keep fun b o hb => hK.2 b o hb).widen (In_.mono hK.1.size)) hmay.out)
  clear hW hB HT4 HK4 hx0 Hx hy0 Hy
  go_upto_region 5 with fail
  rw [hWx.out]
  clear hWx
  go_cut [12, 13] from 28 to 35 (fun va vb wx => BkR W0 wx (fun r => fitsL vars dom T m b r.th r.mem = true ∧ ∀ x ∈ r.th, x.buf.length ≤ 30) va vb)
  case first =>
    refine wp_region_held_drew (S := fun W => W.cell? ⟨w4.heap.size, 0, none⟩ = some (.int .i64 vars) ∧ W.cell? ⟨w4.heap.size, 1, none⟩ = some (.int .i64 dom) ∧ W.cell? ⟨w4.heap.size, 2, none⟩ = some (.slice ta T.length tc) ∧ W.cell? ⟨w4.heap.size + 1, 0, none⟩ = some (.int .i64 m) ∧ W.cell? ⟨w4.heap.size + 1, 1, none⟩ = some (.int .i64 b)) (by kernel_rfl) ⟨c0, c1, c2, m0, m1⟩ (fun hHeld => ?_)
    have HS : Hid (∀ W, Kp W0 W → W.cell? ⟨w4.heap.size, 0, none⟩ = some (.int .i64 vars) ∧ W.cell? ⟨w4.heap.size, 1, none⟩ = some (.int .i64 dom) ∧ W.cell? ⟨w4.heap.size, 2, none⟩ = some (.slice ta T.length tc) ∧ W.cell? ⟨w4.heap.size + 1, 0, none⟩ = some (.int .i64 m) ∧ W.cell? ⟨w4.heap.size + 1, 1, none⟩ = some (.int .i64 b)) := hid (fun W hK => ⟨(hK.2 _ 0 z0).trans c0, (hK.2 _ 1 z0).trans c1, (hK.2 _ 2 z0).trans c2, (hK.2 _ 0 z1).trans m0, (hK.2 _ 1 z1).trans m1⟩)
    have hB : Hid (Bk W0 W0.drew none none none none (fun r => fitsL vars dom T m b r.th r.mem = true ∧ ∀ x ∈ r.th, x.buf.length ≤ 30)) := hid (Bk.start (Kp.drew (Kp.refl W0)))
    clear c0 c1 c2 m0 m1 HT0 hmay HB
    generalize World.drew W0 = wn at hB hHeld ⊢
    refine takeL (i := 0) (v := ?_) rfl (by kernel_rfl) (by kernel_rfl) (by kernel_rfl) (fun _ _ _ h => h) (Or.inl ⟨by rfl, ?_⟩) (by assumption) ?_
    rotate_left
    focus (intro w hSw; go_simp; try with_reducible rfl)
    simp only [Act.put, List.setIfInBounds_toArray, List.set_cons_zero, List.set_cons_succ]
    refine takeL (i := 1) (v := ?_) rfl (by kernel_rfl) (by kernel_rfl) (by kernel_rfl) (fun _ _ _ h => h) (Or.inl ⟨by rfl, ?_⟩) (by assumption) ?_
    rotate_left
    focus (intro w hSw; go_simp; try with_reducible rfl)
    simp only [Act.put, List.setIfInBounds_toArray, List.set_cons_zero, List.set_cons_succ]
    refine takeL (i := 2) (v := ?_) rfl (by kernel_rfl) (by kernel_rfl) (by kernel_rfl) (fun _ _ _ h => h) (Or.inl ⟨by rfl, ?_⟩) (by assumption) ?_
    rotate_left
    focus (intro w hSw; go_simp; try with_reducible rfl)
    simp only [Act.put, List.setIfInBounds_toArray, List.set_cons_zero, List.set_cons_succ]
    refine takeL (i := 4) (v := ?_) rfl (by kernel_rfl) (by kernel_rfl) (by kernel_rfl) (fun _ _ _ h => h) (Or.inl ⟨by rfl, ?_⟩) (by assumption) ?_
    rotate_left
    focus (intro w hSw; go_simp; try with_reducible rfl)
    simp only [Act.put, List.setIfInBounds_toArray, List.set_cons_zero, List.set_cons_succ]
    refine takeL (i := 5) (v := ?_) rfl (by kernel_rfl) (by kernel_rfl) (by kernel_rfl) (fun _ _ _ h => h) (Or.inl ⟨by rfl, ?_⟩) (by assumption) ?_
    rotate_left
    focus (intro w hSw; go_simp; try with_reducible rfl)
    simp only [Act.put, List.setIfInBounds_toArray, List.set_cons_zero, List.set_cons_succ]
    refine takeL (i := 6) (v := ?_) rfl (by kernel_rfl) (by kernel_rfl) (by kernel_rfl) (fun _ _ _ h => h) (Or.inl ⟨by rfl, ?_⟩) (by assumption) ?_
    rotate_left
    focus (intro w hSw; go_simp; try with_reducible rfl)
    simp only [Act.put, List.setIfInBounds_toArray, List.set_cons_zero, List.set_cons_succ]
    refine callL3 (i := 3) (j := 8) (k := 9) (by kernel_rfl) rfl rfl rfl (fun K hK => ?_) (fun K hK => ?_) (fun K hK => ?_)
    · go_simp
      go_at_call 9
      with_reducible refine (hwx.out _ hB.out.kp).mono ?_
      intro e wn hpost
      obtain ⟨⟨a3, c3, th3, b3, d3, me3, bd3⟩, rfl, hBn⟩ := hB.out.callA hpost
      replace hB := hid hBn
      clear hpost hBn
      refine hK.out _ _ (HS.out _ hB.out.kp) (fun hHeld => ?_)
      clear hK
      refine callL3 (i := 7) (j := 8) (k := 9) (by kernel_rfl) rfl rfl rfl (fun K hK => ?_) (fun K hK => ?_) (fun K hK => ?_)
      · go_simp
        go_at_call 9
        with_reducible refine (hwy.out _ hB.out.kp).mono ?_
        intro e wn hpost
        obtain ⟨⟨a7, c7, th7, b7, d7, me7, bd7⟩, rfl, hBn⟩ := hB.out.callB hpost
        replace hB := hid hBn
        clear hpost hBn
        refine hK.out _ _ (HS.out _ hB.out.kp) (fun hHeld => ?_)
        clear hK
        refine callL2 (i := 8) (j := 9) (by kernel_rfl) rfl rfl (fun K hK => ?_) (fun K hK => ?_)
        · go_simp
          replace hB := hid (hB.out.allocA)
          refine hK.out _ _ (HS.out _ hB.out.kp) (fun hHeld => ?_)
          clear hK
          generalize World.alloc _ _ = wn at hB hHeld ⊢
          try simp only [Act.put, List.setIfInBounds_toArray, List.set_cons_zero, List.set_cons_succ]
          refine callL (i := 9) (by kernel_rfl) rfl (fun K hK => ?_)
          go_simp
          replace hB := hid (hB.out.allocB)
          refine hK.out _ _ (HS.out _ hB.out.kp) (fun hHeld => ?_)
          clear hK
          generalize World.alloc _ _ = wn at hB hHeld ⊢
          try simp only [Act.put, List.setIfInBounds_toArray, List.set_cons_zero, List.set_cons_succ]
          obtain ⟨xl, x0, x1, x2, xf⟩ := (hB.out.ba _ rfl).2
          obtain ⟨yl, y0, y1, y2, yf⟩ := (hB.out.bb _ rfl).2
          have hla := hid (hB.out.ba _ rfl).1
          have hlb := hid (hB.out.bb _ rfl).1
          obtain ⟨hne, hne2⟩ := hB.out.nes
          have hfin := hid hB.out.fin
          have hkb := hid hB.out.kp
          clear hB
          refine callL (i := 10) (by kernel_rfl) rfl (fun K hK => ?_)
          go_simp
          refine hK.out _ _ (HS.out _ (Kp.of (three_below hkb.out.1 hla.out))) (fun hHeld => ?_)
          clear hK
          try simp only [Act.put, List.setIfInBounds_toArray, List.set_cons_zero, List.set_cons_succ]
          refine callL (i := 11) (by kernel_rfl) rfl (fun K hK => ?_)
          go_simp
          refine hK.out _ _ (HS.out _ (Kp.of (three_below (three_below hkb.out.1 hla.out) hlb.out))) (fun hHeld => ?_)
          clear hK
          try simp only [Act.put, List.setIfInBounds_toArray, List.set_cons_zero, List.set_cons_succ]
          refine wpAnyH_done (by kernel_rfl) ?_ _
          go_wp2_with fail
          go_meet
          case rel => exact hfin.out
        · go_simp
          replace hB := hid (hB.out.allocB)
          refine hK.out _ _ (HS.out _ hB.out.kp) (fun hHeld => ?_)
          clear hK
          generalize World.alloc _ _ = wn at hB hHeld ⊢
          try simp only [Act.put, List.setIfInBounds_toArray, List.set_cons_zero, List.set_cons_succ]
          refine callL (i := 8) (by kernel_rfl) rfl (fun K hK => ?_)
          go_simp
          replace hB := hid (hB.out.allocA)
          refine hK.out _ _ (HS.out _ hB.out.kp) (fun hHeld => ?_)
          clear hK
          generalize World.alloc _ _ = wn at hB hHeld ⊢
          try simp only [Act.put, List.setIfInBounds_toArray, List.set_cons_zero, List.set_cons_succ]
          obtain ⟨xl, x0, x1, x2, xf⟩ := (hB.out.ba _ rfl).2
          obtain ⟨yl, y0, y1, y2, yf⟩ := (hB.out.bb _ rfl).2
          have hla := hid (hB.out.ba _ rfl).1
          have hlb := hid (hB.out.bb _ rfl).1
          obtain ⟨hne, hne2⟩ := hB.out.nes
          have hfin := hid hB.out.fin
          have hkb := hid hB.out.kp
          clear hB
          refine callL (i := 10) (by kernel_rfl) rfl (fun K hK => ?_)
          go_simp
          refine hK.out _ _ (HS.out _ (Kp.of (three_below hkb.out.1 hla.out))) (fun hHeld => ?_)
          clear hK
          try simp only [Act.put, List.setIfInBounds_toArray, List.set_cons_zero, List.set_cons_succ]
          refine callL (i := 11) (by kernel_rfl) rfl (fun K hK => ?_)
          go_simp
          refine hK.out _ _ (HS.out _ (Kp.of (three_below (three_below hkb.out.1 hla.out) hlb.out))) (fun hHeld => ?_)
          clear hK
          try simp only [Act.put, List.setIfInBounds_toArray, List.set_cons_zero, List.set_cons_succ]
          refine wpAnyH_done (by kernel_rfl) ?_ _
          go_wp2_with fail
          go_meet
          case rel => exact hfin.out
      · go_simp
        replace hB := hid (hB.out.allocA)
        refine hK.out _ _ (HS.out _ hB.out.kp) (fun hHeld => ?_)
        clear hK
        generalize World.alloc _ _ = wn at hB hHeld ⊢
        try simp only [Act.put, List.setIfInBounds_toArray, List.set_cons_zero, List.set_cons_succ]
        refine callL2 (i := 7) (j := 9) (by kernel_rfl) rfl rfl (fun K hK => ?_) (fun K hK => ?_)
        · go_simp
          go_at_call 9
          with_reducible refine (hwy.out _ hB.out.kp).mono ?_
          intro e wn hpost
          obtain ⟨⟨a7, c7, th7, b7, d7, me7, bd7⟩, rfl, hBn⟩ := hB.out.callB hpost
          replace hB := hid hBn
          clear hpost hBn
          refine hK.out _ _ (HS.out _ hB.out.kp) (fun hHeld => ?_)
          clear hK
          refine callL (i := 9) (by kernel_rfl) rfl (fun K hK => ?_)
          go_simp
          replace hB := hid (hB.out.allocB)
          refine hK.out _ _ (HS.out _ hB.out.kp) (fun hHeld => ?_)
          clear hK
          generalize World.alloc _ _ = wn at hB hHeld ⊢
          try simp only [Act.put, List.setIfInBounds_toArray, List.set_cons_zero, List.set_cons_succ]
          obtain ⟨xl, x0, x1, x2, xf⟩ := (hB.out.ba _ rfl).2
          obtain ⟨yl, y0, y1, y2, yf⟩ := (hB.out.bb _ rfl).2
          have hla := hid (hB.out.ba _ rfl).1
          have hlb := hid (hB.out.bb _ rfl).1
          obtain ⟨hne, hne2⟩ := hB.out.nes
          have hfin := hid hB.out.fin
          have hkb := hid hB.out.kp
          clear hB
          refine callL (i := 10) (by kernel_rfl) rfl (fun K hK => ?_)
          go_simp
          refine hK.out _ _ (HS.out _ (Kp.of (three_below hkb.out.1 hla.out))) (fun hHeld => ?_)
          clear hK
          try simp only [Act.put, List.setIfInBounds_toArray, List.set_cons_zero, List.set_cons_succ]
          refine callL (i := 11) (by kernel_rfl) rfl (fun K hK => ?_)
          go_simp
          refine hK.out _ _ (HS.out _ (Kp.of (three_below (three_below hkb.out.1 hla.out) hlb.out))) (fun hHeld => ?_)
          clear hK
          try simp only [Act.put, List.setIfInBounds_toArray, List.set_cons_zero, List.set_cons_succ]
          refine wpAnyH_done (by kernel_rfl) ?_ _
          go_wp2_with fail
          go_meet
          case rel => exact hfin.out
        · go_simp
          replace hB := hid (hB.out.allocB)
          refine hK.out _ _ (HS.out _ hB.out.kp) (fun hHeld => ?_)
          clear hK
          generalize World.alloc _ _ = wn at hB hHeld ⊢
          try simp only [Act.put, List.setIfInBounds_toArray, List.set_cons_zero, List.set_cons_succ]
          refine callL (i := 7) (by kernel_rfl) rfl (fun K hK => ?_)
          go_simp
          go_at_call 9
          with_reducible refine (hwy.out _ hB.out.kp).mono ?_
          intro e wn hpost
          obtain ⟨⟨a7, c7, th7, b7, d7, me7, bd7⟩, rfl, hBn⟩ := hB.out.callB hpost
          replace hB := hid hBn
          clear hpost hBn
          refine hK.out _ _ (HS.out _ hB.out.kp) (fun hHeld => ?_)
          clear hK
          obtain ⟨xl, x0, x1, x2, xf⟩ := (hB.out.ba _ rfl).2
          obtain ⟨yl, y0, y1, y2, yf⟩ := (hB.out.bb _ rfl).2
          have hla := hid (hB.out.ba _ rfl).1
          have hlb := hid (hB.out.bb _ rfl).1
          obtain ⟨hne, hne2⟩ := hB.out.nes
          have hfin := hid hB.out.fin
          have hkb := hid hB.out.kp
          clear hB
          refine callL (i := 10) (by kernel_rfl) rfl (fun K hK => ?_)
          go_simp
          refine hK.out _ _ (HS.out _ (Kp.of (three_below hkb.out.1 hla.out))) (fun hHeld => ?_)
          clear hK
          try simp only [Act.put, List.setIfInBounds_toArray, List.set_cons_zero, List.set_cons_succ]
          refine callL (i := 11) (by kernel_rfl) rfl (fun K hK => ?_)
          go_simp
          refine hK.out _ _ (HS.out _ (Kp.of (three_below (three_below hkb.out.1 hla.out) hlb.out))) (fun hHeld => ?_)
          clear hK
          try simp only [Act.put, List.setIfInBounds_toArray, List.set_cons_zero, List.set_cons_succ]
          refine wpAnyH_done (by kernel_rfl) ?_ _
          go_wp2_with fail
          go_meet
          case rel => exact hfin.out
      · go_simp
        replace hB := hid (hB.out.allocB)
        refine hK.out _ _ (HS.out _ hB.out.kp) (fun hHeld => ?_)
        clear hK
        generalize World.alloc _ _ = wn at hB hHeld ⊢
        try simp only [Act.put, List.setIfInBounds_toArray, List.set_cons_zero, List.set_cons_succ]
        refine callL2 (i := 7) (j := 8) (by kernel_rfl) rfl rfl (fun K hK => ?_) (fun K hK => ?_)
        · go_simp
          go_at_call 9
          with_reducible refine (hwy.out _ hB.out.kp).mono ?_
          intro e wn hpost
          obtain ⟨⟨a7, c7, th7, b7, d7, me7, bd7⟩, rfl, hBn⟩ := hB.out.callB hpost
          replace hB := hid hBn
          clear hpost hBn
          refine hK.out _ _ (HS.out _ hB.out.kp) (fun hHeld => ?_)
          clear hK
          refine callL (i := 8) (by kernel_rfl) rfl (fun K hK => ?_)
          go_simp
          replace hB := hid (hB.out.allocA)
          refine hK.out _ _ (HS.out _ hB.out.kp) (fun hHeld => ?_)
          clear hK
          generalize World.alloc _ _ = wn at hB hHeld ⊢
          try simp only [Act.put, List.setIfInBounds_toArray, List.set_cons_zero, List.set_cons_succ]
          obtain ⟨xl, x0, x1, x2, xf⟩ := (hB.out.ba _ rfl).2
          obtain ⟨yl, y0, y1, y2, yf⟩ := (hB.out.bb _ rfl).2
          have hla := hid (hB.out.ba _ rfl).1
          have hlb := hid (hB.out.bb _ rfl).1
          obtain ⟨hne, hne2⟩ := hB.out.nes
          have hfin := hid hB.out.fin
          have hkb := hid hB.out.kp
          clear hB
          refine callL (i := 10) (by kernel_rfl) rfl (fun K hK => ?_)
          go_simp
          refine hK.out _ _ (HS.out _ (Kp.of (three_below hkb.out.1 hla.out))) (fun hHeld => ?_)
          clear hK
          try simp only [Act.put, List.setIfInBounds_toArray, List.set_cons_zero, List.set_cons_succ]
          refine callL (i := 11) (by kernel_rfl) rfl (fun K hK => ?_)
          go_simp
          refine hK.out _ _ (HS.out _ (Kp.of (three_below (three_below hkb.out.1 hla.out) hlb.out))) (fun hHeld => ?_)
          clear hK
          try simp only [Act.put, List.setIfInBounds_toArray, List.set_cons_zero, List.set_cons_succ]
          refine wpAnyH_done (by kernel_rfl) ?_ _
          go_wp2_with fail
          go_meet
          case rel => exact hfin.out
        · go_simp
          replace hB := hid (hB.out.allocA)
          refine hK.out _ _ (HS.out _ hB.out.kp) (fun hHeld => ?_)
          clear hK
          generalize World.alloc _ _ = wn at hB hHeld ⊢
          try simp only [Act.put, List.setIfInBounds_toArray, List.set_cons_zero, List.set_cons_succ]
          refine callL (i := 7) (by kernel_rfl) rfl (fun K hK => ?_)
          go_simp
          go_at_call 9
          with_reducible refine (hwy.out _ hB.out.kp).mono ?_
          intro e wn hpost
          obtain ⟨⟨a7, c7, th7, b7, d7, me7, bd7⟩, rfl, hBn⟩ := hB.out.callB hpost
          replace hB := hid hBn
          clear hpost hBn
          refine hK.out _ _ (HS.out _ hB.out.kp) (fun hHeld => ?_)
          clear hK
          obtain ⟨xl, x0, x1, x2, xf⟩ := (hB.out.ba _ rfl).2
          obtain ⟨yl, y0, y1, y2, yf⟩ := (hB.out.bb _ rfl).2
          have hla := hid (hB.out.ba _ rfl).1
          have hlb := hid (hB.out.bb _ rfl).1
          obtain ⟨hne, hne2⟩ := hB.out.nes
          have hfin := hid hB.out.fin
          have hkb := hid hB.out.kp
          clear hB
          refine callL (i := 10) (by kernel_rfl) rfl (fun K hK => ?_)
          go_simp
          refine hK.out _ _ (HS.out _ (Kp.of (three_below hkb.out.1 hla.out))) (fun hHeld => ?_)
          clear hK
          try simp only [Act.put, List.setIfInBounds_toArray, List.set_cons_zero, List.set_cons_succ]
          refine callL (i := 11) (by kernel_rfl) rfl (fun K hK => ?_)
          go_simp
          refine hK.out _ _ (HS.out _ (Kp.of (three_below (three_below hkb.out.1 hla.out) hlb.out))) (fun hHeld => ?_)
          clear hK
          try simp only [Act.put, List.setIfInBounds_toArray, List.set_cons_zero, List.set_cons_succ]
          refine wpAnyH_done (by kernel_rfl) ?_ _
          go_wp2_with fail
          go_meet
          case rel => exact hfin.out
    · go_simp
      replace hB := hid (hB.out.allocA)
      refine hK.out _ _ (HS.out _ hB.out.kp) (fun hHeld => ?_)
      clear hK
      generalize World.alloc _ _ = wn at hB hHeld ⊢
      try simp only [Act.put, List.setIfInBounds_toArray, List.set_cons_zero, List.set_cons_succ]
      refine callL2 (i := 3) (j := 9) (by kernel_rfl) rfl rfl (fun K hK => ?_) (fun K hK => ?_)
      · go_simp
        go_at_call 9
        with_reducible refine (hwx.out _ hB.out.kp).mono ?_
        intro e wn hpost
        obtain ⟨⟨a3, c3, th3, b3, d3, me3, bd3⟩, rfl, hBn⟩ := hB.out.callA hpost
        replace hB := hid hBn
        clear hpost hBn
        refine hK.out _ _ (HS.out _ hB.out.kp) (fun hHeld => ?_)
        clear hK
        refine callL2 (i := 7) (j := 9) (by kernel_rfl) rfl rfl (fun K hK => ?_) (fun K hK => ?_)
        · go_simp
          go_at_call 9
          with_reducible refine (hwy.out _ hB.out.kp).mono ?_
          intro e wn hpost
          obtain ⟨⟨a7, c7, th7, b7, d7, me7, bd7⟩, rfl, hBn⟩ := hB.out.callB hpost
          replace hB := hid hBn
          clear hpost hBn
          refine hK.out _ _ (HS.out _ hB.out.kp) (fun hHeld => ?_)
          clear hK
          refine callL (i := 9) (by kernel_rfl) rfl (fun K hK => ?_)
          go_simp
          replace hB := hid (hB.out.allocB)
          refine hK.out _ _ (HS.out _ hB.out.kp) (fun hHeld => ?_)
          clear hK
          generalize World.alloc _ _ = wn at hB hHeld ⊢
          try simp only [Act.put, List.setIfInBounds_toArray, List.set_cons_zero, List.set_cons_succ]
          obtain ⟨xl, x0, x1, x2, xf⟩ := (hB.out.ba _ rfl).2
          obtain ⟨yl, y0, y1, y2, yf⟩ := (hB.out.bb _ rfl).2
          have hla := hid (hB.out.ba _ rfl).1
          have hlb := hid (hB.out.bb _ rfl).1
          obtain ⟨hne, hne2⟩ := hB.out.nes
          have hfin := hid hB.out.fin
          have hkb := hid hB.out.kp
          clear hB
          refine callL (i := 10) (by kernel_rfl) rfl (fun K hK => ?_)
          go_simp
          refine hK.out _ _ (HS.out _ (Kp.of (three_below hkb.out.1 hla.out))) (fun hHeld => ?_)
          clear hK
          try simp only [Act.put, List.setIfInBounds_toArray, List.set_cons_zero, List.set_cons_succ]
          refine callL (i := 11) (by kernel_rfl) rfl (fun K hK => ?_)
          go_simp
          refine hK.out _ _ (HS.out _ (Kp.of (three_below (three_below hkb.out.1 hla.out) hlb.out))) (fun hHeld => ?_)
          clear hK
          try simp only [Act.put, List.setIfInBounds_toArray, List.set_cons_zero, List.set_cons_succ]
          refine wpAnyH_done (by kernel_rfl) ?_ _
          go_wp2_with fail
          go_meet
          case rel => exact hfin.out
        · go_simp
          replace hB := hid (hB.out.allocB)
          refine hK.out _ _ (HS.out _ hB.out.kp) (fun hHeld => ?_)
          clear hK
          generalize World.alloc _ _ = wn at hB hHeld ⊢
          try simp only [Act.put, List.setIfInBounds_toArray, List.set_cons_zero, List.set_cons_succ]
          refine callL (i := 7) (by kernel_rfl) rfl (fun K hK => ?_)
          go_simp
          go_at_call 9
          with_reducible refine (hwy.out _ hB.out.kp).mono ?_
          intro e wn hpost
          obtain ⟨⟨a7, c7, th7, b7, d7, me7, bd7⟩, rfl, hBn⟩ := hB.out.callB hpost
          replace hB := hid hBn
          clear hpost hBn
          refine hK.out _ _ (HS.out _ hB.out.kp) (fun hHeld => ?_)
          clear hK
          obtain ⟨xl, x0, x1, x2, xf⟩ := (hB.out.ba _ rfl).2
          obtain ⟨yl, y0, y1, y2, yf⟩ := (hB.out.bb _ rfl).2
          have hla := hid (hB.out.ba _ rfl).1
          have hlb := hid (hB.out.bb _ rfl).1
          obtain ⟨hne, hne2⟩ := hB.out.nes
          have hfin := hid hB.out.fin
          have hkb := hid hB.out.kp
          clear hB
          refine callL (i := 10) (by kernel_rfl) rfl (fun K hK => ?_)
          go_simp
          refine hK.out _ _ (HS.out _ (Kp.of (three_below hkb.out.1 hla.out))) (fun hHeld => ?_)
          clear hK
          try simp only [Act.put, List.setIfInBounds_toArray, List.set_cons_zero, List.set_cons_succ]
          refine callL (i := 11) (by kernel_rfl) rfl (fun K hK => ?_)
          go_simp
          refine hK.out _ _ (HS.out _ (Kp.of (three_below (three_below hkb.out.1 hla.out) hlb.out))) (fun hHeld => ?_)
          clear hK
          try simp only [Act.put, List.setIfInBounds_toArray, List.set_cons_zero, List.set_cons_succ]
          refine wpAnyH_done (by kernel_rfl) ?_ _
          go_wp2_with fail
          go_meet
          case rel => exact hfin.out
      · go_simp
        replace hB := hid (hB.out.allocB)
        refine hK.out _ _ (HS.out _ hB.out.kp) (fun hHeld => ?_)
        clear hK
        generalize World.alloc _ _ = wn at hB hHeld ⊢
        try simp only [Act.put, List.setIfInBounds_toArray, List.set_cons_zero, List.set_cons_succ]
        refine callL (i := 3) (by kernel_rfl) rfl (fun K hK => ?_)
        go_simp
        go_at_call 9
        with_reducible refine (hwx.out _ hB.out.kp).mono ?_
        intro e wn hpost
        obtain ⟨⟨a3, c3, th3, b3, d3, me3, bd3⟩, rfl, hBn⟩ := hB.out.callA hpost
        replace hB := hid hBn
        clear hpost hBn
        refine hK.out _ _ (HS.out _ hB.out.kp) (fun hHeld => ?_)
        clear hK
        refine callL (i := 7) (by kernel_rfl) rfl (fun K hK => ?_)
        go_simp
        go_at_call 9
        with_reducible refine (hwy.out _ hB.out.kp).mono ?_
        intro e wn hpost
        obtain ⟨⟨a7, c7, th7, b7, d7, me7, bd7⟩, rfl, hBn⟩ := hB.out.callB hpost
        replace hB := hid hBn
        clear hpost hBn
        refine hK.out _ _ (HS.out _ hB.out.kp) (fun hHeld => ?_)
        clear hK
        obtain ⟨xl, x0, x1, x2, xf⟩ := (hB.out.ba _ rfl).2
        obtain ⟨yl, y0, y1, y2, yf⟩ := (hB.out.bb _ rfl).2
        have hla := hid (hB.out.ba _ rfl).1
        have hlb := hid (hB.out.bb _ rfl).1
        obtain ⟨hne, hne2⟩ := hB.out.nes
        have hfin := hid hB.out.fin
        have hkb := hid hB.out.kp
        clear hB
        refine callL (i := 10) (by kernel_rfl) rfl (fun K hK => ?_)
        go_simp
        refine hK.out _ _ (HS.out _ (Kp.of (three_below hkb.out.1 hla.out))) (fun hHeld => ?_)
        clear hK
        try simp only [Act.put, List.setIfInBounds_toArray, List.set_cons_zero, List.set_cons_succ]
        refine callL (i := 11) (by kernel_rfl) rfl (fun K hK => ?_)
        go_simp
        refine hK.out _ _ (HS.out _ (Kp.of (three_below (three_below hkb.out.1 hla.out) hlb.out))) (fun hHeld => ?_)
        clear hK
        try simp only [Act.put, List.setIfInBounds_toArray, List.set_cons_zero, List.set_cons_succ]
        refine wpAnyH_done (by kernel_rfl) ?_ _
        go_wp2_with fail
        go_meet
        case rel => exact hfin.out
    · go_simp
      replace hB := hid (hB.out.allocB)
      refine hK.out _ _ (HS.out _ hB.out.kp) (fun hHeld => ?_)
      clear hK
      generalize World.alloc _ _ = wn at hB hHeld ⊢
      try simp only [Act.put, List.setIfInBounds_toArray, List.set_cons_zero, List.set_cons_succ]
      refine callL2 (i := 3) (j := 8) (by kernel_rfl) rfl rfl (fun K hK => ?_) (fun K hK => ?_)
      · go_simp
        go_at_call 9
        with_reducible refine (hwx.out _ hB.out.kp).mono ?_
        intro e wn hpost
        obtain ⟨⟨a3, c3, th3, b3, d3, me3, bd3⟩, rfl, hBn⟩ := hB.out.callA hpost
        replace hB := hid hBn
        clear hpost hBn
        refine hK.out _ _ (HS.out _ hB.out.kp) (fun hHeld => ?_)
        clear hK
        refine callL2 (i := 7) (j := 8) (by kernel_rfl) rfl rfl (fun K hK => ?_) (fun K hK => ?_)
        · go_simp
          go_at_call 9
          with_reducible refine (hwy.out _ hB.out.kp).mono ?_
          intro e wn hpost
          obtain ⟨⟨a7, c7, th7, b7, d7, me7, bd7⟩, rfl, hBn⟩ := hB.out.callB hpost
          replace hB := hid hBn
          clear hpost hBn
          refine hK.out _ _ (HS.out _ hB.out.kp) (fun hHeld => ?_)
          clear hK
          refine callL (i := 8) (by kernel_rfl) rfl (fun K hK => ?_)
          go_simp
          replace hB := hid (hB.out.allocA)
          refine hK.out _ _ (HS.out _ hB.out.kp) (fun hHeld => ?_)
          clear hK
          generalize World.alloc _ _ = wn at hB hHeld ⊢
          try simp only [Act.put, List.setIfInBounds_toArray, List.set_cons_zero, List.set_cons_succ]
          obtain ⟨xl, x0, x1, x2, xf⟩ := (hB.out.ba _ rfl).2
          obtain ⟨yl, y0, y1, y2, yf⟩ := (hB.out.bb _ rfl).2
          have hla := hid (hB.out.ba _ rfl).1
          have hlb := hid (hB.out.bb _ rfl).1
          obtain ⟨hne, hne2⟩ := hB.out.nes
          have hfin := hid hB.out.fin
          have hkb := hid hB.out.kp
          clear hB
          refine callL (i := 10) (by kernel_rfl) rfl (fun K hK => ?_)
          go_simp
          refine hK.out _ _ (HS.out _ (Kp.of (three_below hkb.out.1 hla.out))) (fun hHeld => ?_)
          clear hK
          try simp only [Act.put, List.setIfInBounds_toArray, List.set_cons_zero, List.set_cons_succ]
          refine callL (i := 11) (by kernel_rfl) rfl (fun K hK => ?_)
          go_simp
          refine hK.out _ _ (HS.out _ (Kp.of (three_below (three_below hkb.out.1 hla.out) hlb.out))) (fun hHeld => ?_)
          clear hK
          try simp only [Act.put, List.setIfInBounds_toArray, List.set_cons_zero, List.set_cons_succ]
          refine wpAnyH_done (by kernel_rfl) ?_ _
          go_wp2_with fail
          go_meet
          case rel => exact hfin.out
        · go_simp
          replace hB := hid (hB.out.allocA)
          refine hK.out _ _ (HS.out _ hB.out.kp) (fun hHeld => ?_)
          clear hK
          generalize World.alloc _ _ = wn at hB hHeld ⊢
          try simp only [Act.put, List.setIfInBounds_toArray, List.set_cons_zero, List.set_cons_succ]
          refine callL (i := 7) (by kernel_rfl) rfl (fun K hK => ?_)
          go_simp
          go_at_call 9
          with_reducible refine (hwy.out _ hB.out.kp).mono ?_
          intro e wn hpost
          obtain ⟨⟨a7, c7, th7, b7, d7, me7, bd7⟩, rfl, hBn⟩ := hB.out.callB hpost
          replace hB := hid hBn
          clear hpost hBn
          refine hK.out _ _ (HS.out _ hB.out.kp) (fun hHeld => ?_)
          clear hK
          obtain ⟨xl, x0, x1, x2, xf⟩ := (hB.out.ba _ rfl).2
          obtain ⟨yl, y0, y1, y2, yf⟩ := (hB.out.bb _ rfl).2
          have hla := hid (hB.out.ba _ rfl).1
          have hlb := hid (hB.out.bb _ rfl).1
          obtain ⟨hne, hne2⟩ := hB.out.nes
          have hfin := hid hB.out.fin
          have hkb := hid hB.out.kp
          clear hB
          refine callL (i := 10) (by kernel_rfl) rfl (fun K hK => ?_)
          go_simp
          refine hK.out _ _ (HS.out _ (Kp.of (three_below hkb.out.1 hla.out))) (fun hHeld => ?_)
          clear hK
          try simp only [Act.put, List.setIfInBounds_toArray, List.set_cons_zero, List.set_cons_succ]
          refine callL (i := 11) (by kernel_rfl) rfl (fun K hK => ?_)
          go_simp
          refine hK.out _ _ (HS.out _ (Kp.of (three_below (three_below hkb.out.1 hla.out) hlb.out))) (fun hHeld => ?_)
          clear hK
          try simp only [Act.put, List.setIfInBounds_toArray, List.set_cons_zero, List.set_cons_succ]
          refine wpAnyH_done (by kernel_rfl) ?_ _
          go_wp2_with fail
          go_meet
          case rel => exact hfin.out
      · go_simp
        replace hB := hid (hB.out.allocA)
        refine hK.out _ _ (HS.out _ hB.out.kp) (fun hHeld => ?_)
        clear hK
        generalize World.alloc _ _ = wn at hB hHeld ⊢
        try simp only [Act.put, List.setIfInBounds_toArray, List.set_cons_zero, List.set_cons_succ]
        refine callL (i := 3) (by kernel_rfl) rfl (fun K hK => ?_)
        go_simp
        go_at_call 9
        with_reducible refine (hwx.out _ hB.out.kp).mono ?_
        intro e wn hpost
        obtain ⟨⟨a3, c3, th3, b3, d3, me3, bd3⟩, rfl, hBn⟩ := hB.out.callA hpost
        replace hB := hid hBn
        clear hpost hBn
        refine hK.out _ _ (HS.out _ hB.out.kp) (fun hHeld => ?_)
        clear hK
        refine callL (i := 7) (by kernel_rfl) rfl (fun K hK => ?_)
        go_simp
        go_at_call 9
        with_reducible refine (hwy.out _ hB.out.kp).mono ?_
        intro e wn hpost
        obtain ⟨⟨a7, c7, th7, b7, d7, me7, bd7⟩, rfl, hBn⟩ := hB.out.callB hpost
        replace hB := hid hBn
        clear hpost hBn
        refine hK.out _ _ (HS.out _ hB.out.kp) (fun hHeld => ?_)
        clear hK
        obtain ⟨xl, x0, x1, x2, xf⟩ := (hB.out.ba _ rfl).2
        obtain ⟨yl, y0, y1, y2, yf⟩ := (hB.out.bb _ rfl).2
        have hla := hid (hB.out.ba _ rfl).1
        have hlb := hid (hB.out.bb _ rfl).1
        obtain ⟨hne, hne2⟩ := hB.out.nes
        have hfin := hid hB.out.fin
        have hkb := hid hB.out.kp
        clear hB
        refine callL (i := 10) (by kernel_rfl) rfl (fun K hK => ?_)
        go_simp
        refine hK.out _ _ (HS.out _ (Kp.of (three_below hkb.out.1 hla.out))) (fun hHeld => ?_)
        clear hK
        try simp only [Act.put, List.setIfInBounds_toArray, List.set_cons_zero, List.set_cons_succ]
        refine callL (i := 11) (by kernel_rfl) rfl (fun K hK => ?_)
        go_simp
        refine hK.out _ _ (HS.out _ (Kp.of (three_below (three_below hkb.out.1 hla.out) hlb.out))) (fun hHeld => ?_)
        clear hK
        try simp only [Act.put, List.setIfInBounds_toArray, List.set_cons_zero, List.set_cons_succ]
        refine wpAnyH_done (by kernel_rfl) ?_ _
        go_wp2_with fail
        go_meet
        case rel => exact hfin.out
  case rest =>
  obtain ⟨sa, sb, ⟨a1, c5, th, a2, d5, mem, bad⟩, ⟨a3, c6, th', a4, d6, mem', bad'⟩, rfl, rfl, hKc, hba, hbb, ⟨hh, hm⟩, ⟨hh', hm'⟩, ⟨hfa, hbua⟩, ⟨hfb, hbub⟩⟩ := hcut
  simp only at hba hbb hh hm hh' hm' hfa hbua hfb hbub
  obtain ⟨hb1000, hthl, hmel, hpl⟩ := come_facts hfa hbua
  obtain ⟨hb1000', hthl', hmel', hpl'⟩ := come_facts hfb hbub
  have hun := hid (unp_back (bad := bad) hfa hbua)
  have hpe := hid (pack_ne (bad := bad) (bad' := bad') hfa hbua hfb hbub)
  have htl : th'.length = th.length ∧ mem'.length = mem.length := by
    obtain ⟨-, f2, f3, -, -⟩ := fits_open hfa
    obtain ⟨-, g2, g3, -, -⟩ := fits_open hfb
    omega
  have P1 : Hid (PwB wc w4.heap.size sa vars dom (.slice ta T.length tc) m b (.slice a1 th.length c5) (.slice a2 mem.length d5) bad) := hid ⟨(hKc.2 _ 0 z0).trans c0, (hKc.2 _ 1 z0).trans c1, (hKc.2 _ 2 z0).trans c2, (hKc.2 _ 0 z1).trans m0, (hKc.2 _ 1 z1).trans m1, hba.c0, hba.c1, hba.c2, by have := hKc.1.size; omega, by have := hKc.1.size; omega, hba.lt⟩
  have P2 : Hid (PwB wc w4.heap.size sb vars dom (.slice ta T.length tc) m b (.slice a3 th'.length c6) (.slice a4 mem'.length d6) bad') := hid ⟨(hKc.2 _ 0 z0).trans c0, (hKc.2 _ 1 z0).trans c1, (hKc.2 _ 2 z0).trans c2, (hKc.2 _ 0 z1).trans m0, (hKc.2 _ 1 z1).trans m1, hbb.c0, hbb.c1, hbb.c2, by have := hKc.1.size; omega, by have := hKc.1.size; omega, hbb.lt⟩
  have HTc := hid (hKc.ths HT0.out)
  have HBc := hid (HB.out.next hKc.1)
  have hp1 : Hid (∀ W, Kp wc W → Calls Tryz.prog 13 #[.agg #[.int .i64 vars, .int .i64 dom, .slice ta T.length tc], .agg #[.int .i64 m, .int .i64 b], .agg #[.slice a1 th.length c5, .slice a2 mem.length d5, .bool bad]] W fun e w' => e = .returned (.tuple #[.string (strOfNums (packB th mem bad)), .int .i64 0]) ∧ Below W.heap.size W w') := hid (fun W hK => by
    have h := pack_any vars dom m b ta T.length tc T a1 th.length c5 th a2 mem.length d5 mem bad W (hK.ths HTc.out) (hK.thr hh) (hK.ints hm) hb1000 (by omega) (by omega)
    rw [hfa] at h
    exact h)
  have hp2 : Hid (∀ W, Kp wc W → Calls Tryz.prog 13 #[.agg #[.int .i64 vars, .int .i64 dom, .slice ta T.length tc], .agg #[.int .i64 m, .int .i64 b], .agg #[.slice a3 th'.length c6, .slice a4 mem'.length d6, .bool bad']] W fun e w' => e = .returned (.tuple #[.string (strOfNums (packB th' mem' bad')), .int .i64 0]) ∧ Below W.heap.size W w') := hid (fun W hK => by
    have h := pack_any vars dom m b ta T.length tc T a3 th'.length c6 th' a4 mem'.length d6 mem' bad' W (hK.ths HTc.out) (hK.thr hh') (hK.ints hm') hb1000' (by omega) (by omega)
    rw [hfb] at h
    exact h)
  have hp3 : Hid (∀ W, Kp wc W → Calls Tryz.prog 14 #[.agg #[.int .i64 vars, .int .i64 dom, .slice ta T.length tc], .agg #[.int .i64 m, .int .i64 b], .string (strOfNums (packB th mem bad))] W (UnpPost W ((bad, mem, th), 0))) := hid (fun W hK => by
    have h := unpack_any vars dom m b ta T.length tc T (strOfNums (packB th mem bad)) W (hK.ths HTc.out) (by rw [strOfNums_size]; have := hpl bad; omega) wv
    rw [hun.out] at h
    exact h)
  have hs1 : Hid (∀ W a5 c7 a6 d7, Kp wc W → ThrIn W (In_ W) a5 th.length c7 th → IntIn W (In_ W) a6 mem.length d7 mem → Calls Tryz.prog 15 #[.agg #[.slice a1 th.length c5, .slice a2 mem.length d5, .bool bad], .agg #[.slice a5 th.length c7, .slice a6 mem.length d7, .bool bad]] W fun e w' => e = .returned (.bool true) ∧ Below W.heap.size W w') := hid (fun W a5 c7 a6 d7 hK h1 h2 =>
    stSame_eq a1 a5 c5 c7 th a2 a6 d5 d7 mem bad W (hK.thr hh) (hK.ints hm) h1 h2)
  have hs2 : Hid (∀ W, Kp wc W → Calls Tryz.prog 15 #[.agg #[.slice a1 th.length c5, .slice a2 mem.length d5, .bool bad], .agg #[.slice a3 th'.length c6, .slice a4 mem'.length d6, .bool bad']] W (SmPost W th th' mem mem' bad bad')) := hid (fun W hK => by
    have h1 := hK.thr hh'
    have h2 := hK.ints hm'
    rw [htl.1] at h1 ⊢
    rw [htl.2] at h2 ⊢
    exact stSame_dec a1 a3 c5 c6 th th' a2 a4 d5 d6 mem mem' bad bad' W htl.1 htl.2 (hK.thr hh) (hK.ints hm) h1 h2)
  have hSS : Hid (th = th' ∧ mem = mem' ∧ bad = bad' → strOfNums (packB th mem bad) = strOfNums (packB th' mem' bad')) := hid (fun h => by
    obtain ⟨rfl, rfl, rfl⟩ := h
    rfl)
  generalize strOfNums (packB th mem bad) = SA at *
  generalize strOfNums (packB th' mem' bad') = SB at *
  clear hh hm hh' hm' hfa hbua hfb hbub hb1000 hthl hmel hpl hb1000' hthl' hmel' hpl' hun htl hba hbb hKc HT0 HB c0 c1 c2 m0 m1 z0 z1 hwx hwy hmay HTc wv
  obtain ⟨c0, c1, c2, m0, m1, s0, s1, s2, y0, y1, y5⟩ := P1.out
  generalize w4.heap.size = cb at *
  go_wp2_with fail
  refine (hp1.out wc (Kp.refl _)).mono ?_
  rintro e w6 ⟨rfl, hb6⟩
  have HK6 := hid (Kp.of hb6)
  clear hb6 hp1 c0 c1 c2 m0 m1 s0 s1 s2 y0 y1 y5
  obtain ⟨c0, c1, c2, m0, m1, s0, s1, s2, y0, y1, y5⟩ := P2.out.later HK6.out
  go_wp2_with fail
  refine (hp2.out w6 HK6.out).mono ?_
  rintro e w7 ⟨rfl, hb7⟩
  have HK7 := hid (HK6.out.next hb7)
  clear hb7 hp2 c0 c1 c2 m0 m1 s0 s1 s2 y0 y1 y5 HK6
  obtain ⟨c0, c1, c2, m0, m1, s0, s1, s2, y0, y1, y5⟩ := P1.out.later HK7.out
  go_wp2_with fail
  refine (hp3.out w7 HK7.out).mono ?_
  rintro e w8 ⟨a7, c7, a8, d8, rfl, hh8, hm8, hb8⟩
  have hbx : Below w8.heap.size w8 (w8.alloc (.cells #[.slice a7 th.length c7, .slice a8 mem.length d8, .bool bad] 34)) := (Below.refl _ _).alloc (Nat.le_refl _) _
  have hX9 : Hid (SBox (w8.alloc (.cells #[.slice a7 th.length c7, .slice a8 mem.length d8, .bool bad] 34)) w8.heap.size (.slice a7 th.length c7) (.slice a8 mem.length d8) bad) := hid (by
    have hcx := heap_alloc_new w8 (.cells #[.slice a7 th.length c7, .slice a8 mem.length d8, .bool bad] 34)
    exact ⟨by simp, cell_of_heap hcx, cell_of_heap hcx, cell_of_heap hcx, fun o => unfrozen hcx⟩)
  have HK9 := hid ((HK7.out.next hb8).next hbx)
  have Hh9 := hid ((Kp.of hbx).thr hh8)
  have Hm9 := hid ((Kp.of hbx).ints hm8)
  clear hb8 hp3 c0 c1 c2 m0 m1 s0 s1 s2 y0 y1 y5 HK7 hh8 hm8 hbx
  go_upto_region 9 with fail
  generalize World.alloc w8 _ = W9 at *
  generalize w8.heap.size = ub at *
  obtain ⟨-, -, -, -, -, s0, s1, s2, -, -, y5⟩ := P1.out.later HK9.out
  obtain ⟨xl, x0, x1, x2, -⟩ := hX9.out
  have hs1 := hid (hs1.out W9 a7 c7 a8 d8 HK9.out Hh9.out Hm9.out)
  have hsb : Hid (∃ d : Bool, (SA.toList == SB.toList) = d ∧ (d = true ↔ (th = th' ∧ mem = mem' ∧ bad = bad'))) := hid ⟨_, rfl, by
    rw [beq_iff_eq]
    constructor
    · intro h
      refine hpe.out ?_
      rw [Lib.toList_data, Lib.toList_data] at h
      exact ByteArray.ext (Array.toList_inj.1 h)
    · intro h
      rw [hSS.out h]⟩
  obtain ⟨d, hd, hdi⟩ := hsb.out
  have Hdi := hid hdi
  clear hdi hsb hSS hpe
  clear hX9 Hh9 Hm9
  go_wp2_with fail
  refine hs1.out.mono ?_
  rintro e w10 ⟨rfl, hb10⟩
  have HK10 := hid (HK9.out.next hb10)
  clear hb10 hs1 s0 s1 s2 y5 xl x0 x1 x2 HK9
  obtain ⟨-, -, -, -, -, s0, s1, s2, -, -, y5⟩ := P1.out.later HK10.out
  obtain ⟨-, -, -, -, -, t0, t1, t2, -, -, y6⟩ := P2.out.later HK10.out
  have hs2 := hid (hs2.out w10 HK10.out)
  go_wp2_with fail
  refine hs2.out.mono ?_
  rintro e w11 ⟨r, rfl, hr, hb11⟩
  obtain rfl : d = r := Bool.eq_iff_iff.2 (Hdi.out.trans hr.symm)
  have hfin := hid ((HBc.out.next HK10.out.1).next hb11).1
  have hdd : (d == d) = true := by cases d <;> rfl
  clear hb11 hr hs2 Hdi hd
  go_wp2_with fail
  go_ret
  exact ⟨rfl, hfin.out⟩
end Go.Proofs.YtekmcoflagajkaaGreatDoor
