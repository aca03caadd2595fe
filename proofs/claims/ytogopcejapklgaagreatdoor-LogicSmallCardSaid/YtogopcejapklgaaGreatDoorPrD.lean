/- The parser takes an atom's numbers, in brackets. -/
import Derived.Test.YtogopcejapklgaaGreatDoorPrC
namespace Go.Proofs.YtogopcejapklgaaGreatDoor
open Go.RowKit

def sgC (j : Nat) : UInt8 := if j = 0 then 40 else 44
theorem sgnAt_c (j : Nat) : sgnAt j = [sgC j] := by unfold sgnAt sgC; split <;> rfl
/-- So many numbers, and what shuts the brackets. -/
def numsQ (n : Nat) (L : List Tok) : Rs (List Int × List Tok) :=
  match numsL n [40] L with
  | .bad e i => .bad e i
  | .ok (r, L1) => match shutP n L1 with
    | .bad e i => .bad e i
    | .ok L2 => .ok (r, L2)
def NumsPost (w : World) (P B n : Nat) (k : Int) (v : Value) (L : List Tok) (c : Int) (e : Ending) (w' : World) : Prop :=
  match numsQ n L with
  | .ok (r, L2) => e = .returned (.tuple #[]) ∧ PBox w' P L2 c ∧ w'.heap[B]? = some (fmO 3 (putN k r) v) ∧ But2 w w' P B
  | .bad er i => e = wrongP er i ∧ But2 w w' P B
/-- The addresses of an atom's numbers lie in block bb. -/
def PtrsAt (w : World) (bb B : Nat) (k : Int) : Prop := ∀ i (h : i < (offs k).length), w.cell? ⟨bb, i, none⟩ = some (.pointer (some ⟨B, 1 + (offs k)[i], none⟩))

set_option maxRecDepth 100000 in
set_option maxHeartbeats 4000000 in
theorem listN_any (P bp bt bb B n : Nat) (k : Int) (hk : isShp k) (hn : (offs k).length = n) (v : Value) (L : List Tok) (c : Int) (w : World) (hP : PBox w P L c) (hE : Ends L) (h1 : w.cell? ⟨bp, 0, none⟩ = some (.pointer (some ⟨P, 0, none⟩)))
    (h2 : 0 < n → w.cell? ⟨bt, 0, none⟩ = some (.slice (some ⟨bb, 0, none⟩) n n)) (h3 : PtrsAt w bb B k) (hB : w.heap[B]? = some (fmO 3 (putN k []) v)) (hPB : P < B)
    (hbp : bp < w.heap.size ∧ bp ≠ P ∧ bp ≠ B) (hbt : bt < w.heap.size ∧ bt ≠ P ∧ bt ≠ B) (hbb : 0 < n → bb < w.heap.size ∧ bb ≠ P ∧ bb ≠ B) :
    Calls Tryz.prog 47 #[.pointer (some ⟨P, 0, none⟩), .int .i64 n, .func (.func 79) #[] #[.pointer (some ⟨bp, 0, none⟩), .pointer (some ⟨bt, 0, none⟩)]] w (NumsPost w P B n k v L c) := by
  have hof3 := offs_len k
  rw [hn] at hof3
  have HP0 := hid hP
  have HE := hid hE
  have H1 := hid h1
  have H2 := hid h2
  have H3 := hid h3
  have HB := hid hB
  have Hn := hid hn
  have Hbb := hid hbb
  have Hk := hid hk
  clear hP hE h1 h2 h3 hB hn hbb hk
  go_enter Tryz.func47, Tryz.ntmps47
  go_wp2_with fail
  go_loopw [6, 9] (fun sg i wr => ∃ (j : Nat) (l : List Int) (L1 : List Tok), j ≤ n ∧ i = .int .i64 j ∧ sg = .string ⟨#[sgC j]⟩ ∧ Hid (l.length = j ∧ PBox wr P L1 c ∧ Ends L1 ∧ wr.heap[B]? = some (fmO 3 (putN k l) v) ∧ But2 w wr P B ∧ numsL n [40] L = appR l (numsL (n - j) [sgC j] L1))) (fun _ i _ => n - (intOf i).toNat)
  case atStart => exact ⟨0, [], L, Nat.zero_le _, rfl, rfl, rfl, HP0.out, HE.out, HB.out, But2.refl _ _ _, by rw [appR_nil]; rfl⟩
  case round =>
    obtain ⟨j, l, L1, hj, rfl, rfl, hR⟩ := hrel
    obtain ⟨hlj, hP1, hE1, hB1, hW1, hQ1⟩ := hR.out
    clear hR
    by_cases hlt : j < n
    · have hjn : n - j = (n - (j + 1)) + 1 := by omega
      rw [hjn] at hQ1
      have hneed := need_any P L1 c (sgC j) wr hP1 hE1
      unfold NeedPost at hneed
      cases hnd : needP [sgC j] L1 with
      | bad er pl =>
        rw [hnd] at hneed
        rw [numsL_need hnd, appR_bad] at hQ1
        have hq : numsQ n L = .bad er pl := by unfold numsQ; rw [hQ1]
        have hfin : Hid (∀ w', wr.grownBy w' (some P) → NumsPost w P B n k v L c (wrongP er pl) w') := fun w' hg => by
          unfold NumsPost; rw [hq]; exact ⟨rfl, hW1.trans (.of hg _)⟩
        have hneed := hid hneed
        clear hq hQ1 hW1 hB1 hnd hjn hlj hP1 hE1
        go_wp2_with (first
          | (go_at_call 80
             with_reducible refine hneed.out.mono ?_
             rintro e w1 ⟨rfl, hg⟩)
          | fail)
        exact ⟨rfl, hfin.out _ hg⟩
      | ok L2 =>
        rw [hnd] at hneed
        obtain ⟨hk0, htx, rfl, hL2⟩ := needP_ok hE1 hnd
        have hneed := hid hneed
        have hsz := hW1.size
        obtain ⟨bb1, bb2, bb3⟩ := Hbb.out (by omega)
        have hjo : j < (offs k).length := by rw [Hn.out]; exact hlt
        have hoj := offs_at Hk.out hjo
        have hptr := H3.out j hjo
        -- behind need
        have hnum : ∀ w1, PBox w1 P L1.tail c → wr.grownBy w1 (some P) → Calls Tryz.prog 79 #[.int .i64 j, .pointer (some ⟨bp, 0, none⟩), .pointer (some ⟨bt, 0, none⟩)] w1 (NmbPost w1 P B (offs k)[j] 3 (putN k l) v L1.tail c) := fun w1 hP2 hg => by
          have hkeep : ∀ b, b < w.heap.size → b ≠ P → b ≠ B → w1.heap[b]? = w.heap[b]? := fun b hb q1 q2 => (hg.block b (by omega) (by simpa using q1)).trans (hW1.block b hb q1 q2)
          have hcell : ∀ b o, b < w.heap.size → b ≠ P → b ≠ B → w1.cell? ⟨b, o, none⟩ = w.cell? ⟨b, o, none⟩ := fun b o hb q1 q2 => World.cell?_of_block (w := w) (a := ⟨b, o, none⟩) (hkeep b hb q1 q2)
          refine num_any P bp bt bb B (offs k)[j] j n 3 (putN k l) v L1.tail c w1 hP2 hL2.ends ((hcell _ _ hbp.1 hbp.2.1 hbp.2.2).trans H1.out) ((hcell _ _ hbt.1 hbt.2.1 hbt.2.2).trans (H2.out (by omega))) ((hcell _ _ bb1 bb2 bb3).trans hptr) hlt hof3 hoj ?_ hPB ⟨hbp.2.1, hbp.2.2⟩
          exact (hg.block B (fmO_cells hB1).1 (by simp; omega)).trans hB1
        have hnum := hid hnum
        by_cases hkind : (hdT L1.tail).kind = 2
        · rw [numsL_step hnd hkind, appR_app] at hQ1
          have hnx := hL2.tail (.inl (by rw [hkind]; decide))
          have hpn : putN k (l ++ [(hdT L1.tail).n]) = (putN k l).put (offs k)[j] (hdT L1.tail).n := by
            have := putN_snoc (k := k) (l := l) (x := (hdT L1.tail).n) (by rw [hlj]; exact hjo)
            rw [this]
            simp only [hlj]
          have hR2 : Hid (∀ w1 w2, PBox w1 P L1.tail c → wr.grownBy w1 (some P) → NmbPost w1 P B (offs k)[j] 3 (putN k l) v L1.tail c (.returned (.tuple #[])) w2 → (l ++ [(hdT L1.tail).n]).length = j + 1 ∧ PBox w2 P L1.tail.tail c ∧ Ends L1.tail.tail ∧ w2.heap[B]? = some (fmO 3 (putN k (l ++ [(hdT L1.tail).n])) v) ∧ But2 w w2 P B ∧ numsL n [40] L = appR (l ++ [(hdT L1.tail).n]) (numsL (n - (j + 1)) [sgC (j + 1)] L1.tail.tail)) := by
            intro w1 w2 hP2 hg hN
            unfold NmbPost at hN
            rw [if_pos hkind] at hN
            obtain ⟨-, n1, n2, n3⟩ := hN
            exact ⟨by simp [hlj], n1, hnx.ends, by rw [hpn]; exact n2, (hW1.trans (.of hg _)).trans n3, hQ1⟩
          have hR3 : Hid (∀ w1 e w2, NmbPost w1 P B (offs k)[j] 3 (putN k l) v L1.tail c e w2 → e = .returned (.tuple #[])) := by
            intro w1 e w2 hN
            unfold NmbPost at hN
            rw [if_pos hkind] at hN
            exact hN.1
          clear hQ1 hW1 hB1 hnd hjn hlj hP1 hE1 hpn hnx hkind hL2 hptr hoj htx hk0 hsz
          go_wp2_with (first
            | (go_at_call 80
               with_reducible refine hneed.out.mono ?_
               rintro e w1 ⟨rfl, hP2, hg⟩)
            | (go_at_call 79
               with_reducible refine (hnum.out _ hP2 hg).mono ?_
               intro e w2 hN
               obtain rfl := hR3.out _ _ _ hN
               have hR4 := hid (hR2.out _ _ hP2 hg hN)
               clear hN)
            | fail)
          go_roundw
          case rel => exact ⟨j + 1, _, _, by omega, by go_num, rfl, hR4.out⟩
          case measure => simp [intOf]; omega
        · rw [numsL_kind hnd hkind, appR_bad] at hQ1
          have hq : numsQ n L = .bad 21 (hdT L1.tail).place := by unfold numsQ; rw [hQ1]
          have hfin : Hid (∀ w1 e w2, wr.grownBy w1 (some P) → NmbPost w1 P B (offs k)[j] 3 (putN k l) v L1.tail c e w2 → e = wrongP 21 (hdT L1.tail).place ∧ NumsPost w P B n k v L c (wrongP 21 (hdT L1.tail).place) w2) := fun w1 e w2 hg hN => by
            unfold NmbPost at hN
            rw [if_neg hkind] at hN
            unfold NumsPost; rw [hq]; exact ⟨hN.1, rfl, (hW1.trans (.of hg _)).trans (.of hN.2 _)⟩
          clear hQ1 hW1 hB1 hnd hjn hlj hP1 hE1 hkind hL2 hptr hoj htx hk0 hsz hq
          go_wp2_with (first
            | (go_at_call 80
               with_reducible refine hneed.out.mono ?_
               rintro e w1 ⟨rfl, hP2, hg⟩)
            | (go_at_call 79
               with_reducible refine (hnum.out _ hP2 hg).mono ?_
               intro e w2 hN
               obtain ⟨rfl, hN3⟩ := hfin.out _ _ _ hg hN
               have hN4 := hid hN3
               clear hN hN3)
            | fail)
          exact ⟨rfl, hN4.out⟩
    · obtain rfl : j = n := by omega
      rw [Nat.sub_self] at hQ1
      simp only [numsL, appR, List.append_nil] at hQ1
      by_cases h0 : j = 0
      · subst h0
        have hq : numsQ 0 L = .ok (l, L1) := by unfold numsQ; rw [hQ1]; rfl
        have hfin : Hid (NumsPost w P B 0 k v L c (.returned (.tuple #[])) wr) := by unfold NumsPost; rw [hq]; exact ⟨rfl, hP1, hB1, hW1⟩
        clear hq hQ1 hW1 hB1 hlj hP1 hE1
        go_wp2_with fail
        go_end0
        exact hfin.out
      · have hneed := need_any P L1 c 41 wr hP1 hE1
        unfold NeedPost at hneed
        cases hnd : needP [41] L1 with
        | bad er pl =>
          rw [hnd] at hneed
          have hq : numsQ j L = .bad er pl := by unfold numsQ; rw [hQ1]; simp only [shutP]; rw [if_neg h0, hnd]
          have hfin : Hid (∀ w', wr.grownBy w' (some P) → NumsPost w P B j k v L c (wrongP er pl) w') := fun w' hg => by
            unfold NumsPost; rw [hq]; exact ⟨rfl, hW1.trans (.of hg _)⟩
          have hneed := hid hneed
          clear hq hQ1 hW1 hB1 hnd hlj hP1 hE1
          go_wp2_with (first
            | (go_at_call 80
               with_reducible refine hneed.out.mono ?_
               rintro e w1 ⟨rfl, hg⟩)
            | fail)
          exact ⟨rfl, hfin.out _ hg⟩
        | ok L2 =>
          rw [hnd] at hneed
          have hq : numsQ j L = .ok (l, L2) := by unfold numsQ; rw [hQ1]; simp only [shutP]; rw [if_neg h0, hnd]
          have hfin : Hid (∀ w', PBox w' P L2 c → wr.grownBy w' (some P) → NumsPost w P B j k v L c (.returned (.tuple #[])) w') := fun w' hP2 hg => by
            unfold NumsPost; rw [hq]; exact ⟨rfl, hP2, (hg.block B (fmO_cells hB1).1 (by simp; omega)).trans hB1, hW1.trans (.of hg _)⟩
          have hneed := hid hneed
          clear hq hQ1 hW1 hB1 hnd hlj hP1 hE1
          go_wp2_with (first
            | (go_at_call 80
               with_reducible refine hneed.out.mono ?_
               rintro e w1 ⟨rfl, hP2, hg⟩)
            | fail)
          go_end0
          exact hfin.out _ hP2 hg
end Go.Proofs.YtogopcejapklgaaGreatDoor
