/- The parser takes a formula. -/
import Derived.Test.YtogopcejapklgaaGreatDoorPrI
import Derived.Laws.EntriesVeiled
namespace Go.Proofs.YtogopcejapklgaaGreatDoor
open Go.RowKit

theorem FSt.but3 {w x y : World} {P B base : Nat} {wi : Int} {L L' : List Tok} {c c' : Int} (h : FSt w x P wi L c) (hg : But3 base x y P B) (hb : w.heap.size + 1 + 1 < base) (hB : w.heap.size + 1 + 1 < B) (hP : PBox y P L' c') : FSt w y P wi L' c' := by
  have hs := h.sz
  have hl := h.lt
  have hk : ∀ b, b ≤ w.heap.size + 1 + 1 → b ≠ P → y.heap[b]? = x.heap[b]? := fun b hlt hne => hg.block b (by omega) hne (by omega)
  have hgr := h.gr
  refine ⟨⟨hg.os.trans hgr.os, hg.tape.trans hgr.tape, hg.output.trans hgr.output, Nat.le_trans hgr.size hg.size, fun b hb hne => (hk b (by omega) (by simpa using hne)).trans (hgr.block b hb hne)⟩, hP, ?_, ?_, ?_, Nat.lt_of_lt_of_le hs hg.size, hl⟩
  · exact (World.cell?_of_block (w := x) (a := ⟨w.heap.size, 0, none⟩) (hk w.heap.size (by omega) (by omega))).trans h.n0
  · exact (World.cell?_of_block (w := x) (a := ⟨w.heap.size + 1, 0, none⟩) (hk (w.heap.size + 1) (by omega) (by omega))).trans h.n1
  · exact (hk (w.heap.size + 1 + 1) (by omega) (by omega)).trans h.n2
theorem frm_wf {k : Int} (h : isFrm k) : (Lit.int .i64 k).wf = true := by rcases h with rfl | rfl | rfl | rfl | rfl | rfl | rfl | rfl | rfl | rfl | rfl <;> decide

set_option maxRecDepth 100000 in
set_option maxHeartbeats 16000000 in
theorem formula_some (d : Nat) (hF : FormAt d) (hd : d ≤ 19) (P c : Nat) (L : List Tok) (wi : Int) (w : World) (hwi : wi = 19 - d) (hc : c < 200) (hP : PBox w P L c) (hE : Ends L) (hT : Tn L) :
    Calls Tryz.prog 26 #[.pointer (some ⟨P, 0, none⟩), .int .i64 wi] w (FormPost w P (d + 1) c L) := by
  have hlt := hP.lt
  have HP := hid hP
  have HE := hid hE
  have HT := hid hT
  have HF := hid hF
  have Hwi := hid hwi
  have c0 : (0 : Int) ≤ c := by omega
  have c1 : (c : Int) < 200 := by omega
  have hw1 : decide (wi < 20) = true := decide_eq_true (by omega)
  clear hP hE hT hF hwi
  go_enter Tryz.func26, Tryz.ntmps26
  go_upto_region 1 with fail
  generalize hW : World.alloc _ _ = W0
  have hS0 : Hid (FSt w W0 P wi L c) := by
    subst hW
    exact ⟨grown_alloc (grown_alloc (grown_alloc (grown_refl _ _) _) _) _, ((HP.out.alloc _).alloc _).alloc _, by go_simp, by go_simp, alloc_at (by simp), by simp, hlt⟩
  clear hW
  obtain ⟨-, -, hm, hf⟩ := hS0.out.box
  have hf := hf 1
  have h0 := hS0.out.n0
  have h1 := hS0.out.n1
  have hsz := hS0.out.sz
  go_upto_region 2 with fail
  generalize hW : World.setCell W0 _ _ = W1
  have hS1 : Hid (FSt w W1 P wi L (c + 1 : Nat)) := by
    subst hW
    exact hS0.out.next (grown_set _ _ _ _) (fun k e => .inl (Option.some.inj e).symm) (hS0.out.box.more _)
  clear hW hm hf h0 h1 hsz hS0
  have q0 := hS1.out.n0
  have q1 := hS1.out.n1
  have q2 := hS1.out.box.c1
  have hyes := want_yes P 2
  obtain ⟨cc, hcc⟩ : ∃ cc : Int, cc = ((c + 1 : Nat) : Int) := ⟨_, rfl⟩
  have hw2 : decide (cc ≤ 200) = true := decide_eq_true (by omega)
  rw [← hcc] at q2
  have Hcc := hid hcc
  clear hcc
  go_still_tail 10, (by kernel_rfl)
  change wpList _ _ _ _ _ W1.drew
  have hS2 := hid hS1.out.drew
  clear q0 q1 q2 hS1
  generalize World.drew W1 = W2 at hS2 ⊢
  go_wp2_with (first
    | (go_at_call 27
       with_reducible refine (hyes _).mono ?_
       rintro e w1 ⟨rfl, rfl⟩
       have q0 := hS2.out.n0
       obtain ⟨b, off, cap, t0, hb, hl1, hl2, hl3, g0, g1, g2, g3, -⟩ := hS2.out.box.hd HE.out
       have i0 : (0 : Int) < L.length := by omega)
    | (go_at_call 40
       with_reducible refine (shapes_any _).mono ?_
       rintro e w1 ⟨mb, rfl, hmb1, hM, hB1⟩
       have hS3 := hid (hS2.out.below hB1)
       clear q0 g0 g1 g2 g3)
    | (at_range
       (refine wpList_range_b _ rfl _ 82 rfl 3 81 Tryz.underlying82 mb shpT rfl hM ?_)
       intro w0 hR0 hB0 hz0
       have hS4 := hid (hS3.out.below hB0)
       have hR0 := hid hR0)
    | fail)
  go_frame
  have hit : w.heap.size + 1 + 1 < w1.heap.size := hS3.out.sz
  generalize w1.heap.size = it at hR0 hit ⊢
  clear hM hB1 hB0 hz0 hS3 hS2 hl1 hl2 hl3
  generalize htx : (hdT L).text = tx at *
  have Htx := hid htx
  clear htx
  go_loopw [6] (fun _ wr => ∃ (D : Int → Prop) (cnt : Nat), Hid (Rgs wr it mb shpT D cnt ∧ NoS tx D ∧ FSt w wr P wi L cc)) (fun _ wr => wr.rangeLeft mb it)
  case atStart => exact ⟨_, _, hR0.out, fun k h => h.elim, by rw [Hcc.out]; exact hS4.out⟩
  case round =>
    obtain ⟨D, cnt, hR⟩ := hrel
    have hRg := hR.out.1
    go_wp2_with (first
      | (at_next; refine wpList_next_b _ rfl _ rfl it mb shpT D cnt rfl hRg ?_ ?_)
      | go_in)
    · intro hall
      have hsh : Hid (shpW (hdT L).text = none) := by show _ = _; rw [Htx.out]; exact hR.out.2.1.none fun p hp => hall p.1 p.2 hp
      have hS5 := hid hR.out.2.2
      clear hall hR hRg
      go_wp2_with (first
        | (go_at_call 35
           with_reducible refine (forms_any _).mono ?_
           rintro e w6 ⟨fb, rfl, hfb1, hM2, hB6⟩
           have hS6 := hid (hS5.out.below hB6))
        | (at_range
           (refine wpList_range_b _ rfl _ 70 rfl 3 89 Tryz.underlying70 fb frmT rfl hM2 ?_)
           intro w7 hR7 hB7 hz7
           have hS7 := hid (hS6.out.below hB7)
           have hR7 := hid hR7)
        | go_in)
      go_frame
      have hit2 : w.heap.size + 1 + 1 < w6.heap.size := hS6.out.sz
      generalize w6.heap.size = it2 at hR7 hit2 ⊢
      clear hM2 hB6 hB7 hz7 hS6 hS5 hfb1
      rename World => wz
      go_loopw [8] (fun _ wr => ∃ (D : Int → Prop) (cnt : Nat), Hid (Rgs wr it2 fb frmT D cnt ∧ NoF tx D ∧ FSt w wr P wi L cc)) (fun _ wr => wr.rangeLeft fb it2)
      case atStart => exact ⟨_, _, hR7.out, fun k h => h.elim, hS7.out⟩
      case round =>
        obtain ⟨D2, cnt2, hR⟩ := hrel
        have hRg := hR.out.1
        go_wp2_with (first
          | (at_next; refine wpList_next_b _ rfl _ rfl it2 fb frmT D2 cnt2 rfl hRg ?_ ?_)
          | go_in)
        · intro hall
          have hfr : frmW (hdT L).text = none := by rw [Htx.out]; exact hR.out.2.1.none fun p hp => hall p.1 p.2 hp
          have hpar := parL_no (d := d) hc hsh.out hfr
          have hS8 := hid hR.out.2.2
          have hno := hid (want_no P L cc 21 wr hS8.out.box HE.out)
          have hfin : Hid (FormPost w P (d + 1) c L (wrongP 21 (hdT L).place) wr) := by unfold FormPost; rw [hpar]; exact ⟨rfl, hS8.out.gr⟩
          have q0 := hS8.out.n0
          clear hall hR hRg hfr hpar
          go_wp2_with (first
            | (go_at_call 27
               with_reducible refine hno.out.mono ?_
               rintro e w9 ⟨rfl, rfl⟩)
            | go_in)
          exact ⟨rfl, hfin.out⟩
        · intro k pv hp w5 cnt5 hR5 hlt5 hg5 hz5 hen
          obtain ⟨hk, hv⟩ := frmT_mem (k, pv) hp
          simp only at hk hv
          unfold frmV at hv
          subst hv
          by_cases hm : frmN k = tx
          · subst hm
            have hS5 := hid (hR.out.2.2.grown hg5 (fun q e => by have := (Option.some.inj e); omega))
            have hfr : frmW (hdT L).text = some k := by rw [Htx.out]; exact (frmW_frmN hk).1
            have hpar := parL_frm (d := d) hc hsh.out hfr
            have hLf := (Lft.refl HE.out).tail (.inr (text_ne' hfr))
            have hE2 := hid hLf.ends
            have hT2 := hid (hLf.tn HT.out)
            have hk2 := frmK_le k
            obtain ⟨fk, hfk⟩ : ∃ fk, fk = frmK k := ⟨_, rfl⟩
            rw [← hfk] at hpar hen hk2
            have Hfk := hid hfk
            clear hfk
            cases hq : kidsQ d fk (c + 1) L.tail with
            | bad er pl =>
              rw [hq] at hpar
              have hcall : Hid (∀ W base B, KSt base W W P B w.heap.size (w.heap.size + 1) wi k (.slice none 0 0) [] → FSt w W P wi L.tail cc → w.heap.size ≤ B → Calls Tryz.prog 47 #[.pointer (some ⟨P, 0, none⟩), .int .i64 fk, .func (.func 48) #[] #[.pointer (some ⟨B, 0, none⟩), .pointer (some ⟨w.heap.size, 0, none⟩), .pointer (some ⟨w.heap.size + 1, 0, none⟩)]] W (fun e W' => e = wrongP er pl ∧ FormPost w P (d + 1) c L (wrongP er pl) W')) := fun W base B hK hS hBw => by
                refine (listK_any base P B w.heap.size (w.heap.size + 1) d fk (c + 1) wi k L.tail W HF.out Hwi.out hd (by omega) hK hk2 (by rw [← Hcc.out]; exact hS.box) hE2.out hT2.out).mono ?_
                intro e W' hA
                unfold KidsPost at hA
                rw [hq] at hA
                refine ⟨hA.1, ?_⟩
                unfold FormPost
                rw [hpar]
                have hb1 := hK.bp.2.1
                have hb2 := hK.bp.2.2.2
                have hb3 := hK.lt
                have hb4 := hS.lt
                exact ⟨rfl, But3.fin hS.gr hA.2 (by omega) hBw⟩
              clear hq hR hRg hR5 hg5 hz5 hlt5 hp hpar hLf hfr
              generalize frmN k = nm at *
              go_wp2_with (first | go_in)
              generalize hW : World.alloc w5 _ = W6
              have hS6 : Hid (FSt w W6 P wi L cc) := by subst hW; exact hS5.out.alloc _
              have hb7 : Hid (W6.heap[w5.heap.size]? = some (.cells #[strV nm, .int .i64 fk] 89 (0, 0))) := by subst hW; exact alloc_at rfl
              have hz7 : w.heap.size + 1 + 1 < w5.heap.size := hS5.out.sz
              clear hW hS5
              have q0 := hS6.out.n0
              have hlen := hE2.out.cons_
              obtain ⟨b, off, cap, t0, hb, hl1, hl2, hl3, -, -, -, -, hTk⟩ := hS6.out.box.hd HE.out
              have hf0 := hS6.out.box.f0 0
              have s3 : 1 < L.length := by
                obtain ⟨t, M, he⟩ := hlen
                have := congrArg List.length he
                rw [List.length_tail] at this
                simp at this
                omega
              have hne : L ≠ [] := by intro h; rw [h] at s3; simp at s3
              have htk := hid (hS6.out.box.take hne hTk)
              rw [List.length_tail] at htk
              unfold maxLen at hl3
              generalize L.length = m at *
              have s1 : (1 : Int) ≤ m := by omega
              have s2 : (m : Int) ≤ cap := by omega
              have s4 : ¬ cap = 1 := by omega
              have s5 : (1 : Int) < cap := by omega
              have s6 : 1 < cap := by omega
              clear hlen hne hTk
              go_still_tail 8, (by kernel_rfl)
              change wpList _ _ _ _ _ W6.drew
              have t0 : W6.drew.cell? ⟨P, 0, none⟩ = some (.slice (some ⟨b, off, none⟩) m cap) := t0
              have hf0 : W6.drew.frozen? ⟨P, 0, none⟩ = false := hf0
              go_upto_region 15 with fail
              generalize hW : World.drew (World.setCell W6 _ _) = W7
              have hS7 : Hid (FSt w W7 P wi L.tail cc) := by
                subst hW
                exact hS6.out.next (grown_drew (grown_set _ _ _ _)) (fun k e => .inl (Option.some.inj e).symm) htk.out.drew
              have hb8 : Hid (W7.heap[w5.heap.size]? = some (.cells #[strV nm, .int .i64 fk] 89 (0, 0))) := by
                have hlt' := hS7.out.lt
                subst hW
                exact (Below.heap_setCell _ _ _ _ (by show w5.heap.size ≠ P; omega)).trans hb7.out
              have hw7 : w5.heap.size < W7.heap.size := (Array.getElem?_eq_some_iff.1 hb8.out).1
              clear hW hS6 hb7 htk t0 hf0
              have hmf : ∀ (fn : Fn) (first cap : Array Value) (w : World), (Instr.makeFunc fn first cap).run Tryz.prog w = .ok (.func fn first cap) w := fun _ _ _ _ => rfl
              go_upto_region 16 with fail
              generalize hW : World.alloc W7 _ = W8
              have hB8 : Hid (W8.heap[W7.heap.size]? = some (fmO k Pr.zero (.slice none 0 0))) := by subst hW; exact alloc_at rfl
              have hS8 : Hid (FSt w W8 P wi L.tail cc) := by subst hW; exact hS7.out.alloc _
              have hz8 : W8.heap.size = W7.heap.size + 1 := by subst hW; simp
              have hb9 : W8.heap[w5.heap.size]? = some (.cells #[strV nm, .int .i64 fk] 89 (0, 0)) := by subst hW; exact (Below.heap_alloc _ _ _ hw7).trans hb8.out
              have y0 := cell_of_heap (j := 0) hb9
              have y1 := cell_of_heap (j := 1) hb9
              simp at y0 y1
              have q0 := hS8.out.n0
              have hKS : Hid (KSt (W7.heap.size + 1) W8 W8 P W7.heap.size w.heap.size (w.heap.size + 1) wi k (.slice none 0 0) []) := by
                have hl := hS8.out.lt
                exact ⟨.refl _ _ _ _, hB8.out, Kds.nil, by omega, ⟨by omega, by omega⟩, ⟨hS8.out.n0, by omega, by omega, by omega⟩, ⟨hS8.out.n1, by omega, by omega, by omega⟩⟩
              have hc8 := hid (hcall.out W8 (W7.heap.size + 1) W7.heap.size hKS.out hS8.out (by omega))
              clear hb8 hb9 hW hS7 hKS
              go_wp2_with (first
                | (go_at_call 47
                   with_reducible refine hc8.out.mono ?_
                   rintro e w9 ⟨rfl, hF9⟩
                   have hF9 := hid hF9)
                | fail)
              exact ⟨rfl, hF9.out⟩
            | ok x =>
              obtain ⟨r, L2, c2⟩ := x
              rw [hq] at hpar
              have hrl : r.length = fk := by
                have hnum := (kidsL_spec (parL_spec d) fk [40] (c + 1) L.tail hE2.out hT2.out (by omega)).1
                unfold kidsQ at hq
                cases hx : kidsL (parL d) fk [40] (c + 1) L.tail with
                | bad e i => rw [hx] at hq; cases hq
                | ok x =>
                  rw [hx] at hq
                  simp only [] at hq
                  cases hy : shutP fk x.2.1 with
                  | bad e i => rw [hy] at hq; cases hq
                  | ok y =>
                    rw [hy] at hq
                    cases hq
                    exact (hnum _ _ _ hx).2.1
              have hcall : Hid (∀ W base B, KSt base W W P B w.heap.size (w.heap.size + 1) wi k (.slice none 0 0) [] → FSt w W P wi L.tail cc → w.heap.size ≤ B → Calls Tryz.prog 47 #[.pointer (some ⟨P, 0, none⟩), .int .i64 fk, .func (.func 48) #[] #[.pointer (some ⟨B, 0, none⟩), .pointer (some ⟨w.heap.size, 0, none⟩), .pointer (some ⟨w.heap.size + 1, 0, none⟩)]] W (fun e W' => e = .returned (.tuple #[]) ∧ ∃ A cap, W'.heap[B]? = some (fmO k Pr.zero (.slice A fk cap)) ∧ Kds W' base (.slice A fk cap) r ∧ PBox W' P L2 c2 ∧ But3 base W W' P B)) := fun W base B hK hS hBw => by
                refine (listK_any base P B w.heap.size (w.heap.size + 1) d fk (c + 1) wi k L.tail W HF.out Hwi.out hd (by omega) hK hk2 (by rw [← Hcc.out]; exact hS.box) hE2.out hT2.out).mono ?_
                intro e W' hA
                unfold KidsPost at hA
                rw [hq] at hA
                obtain ⟨a1, ⟨A, cap, a2, a3⟩, a4, a5⟩ := hA
                exact ⟨a1, A, cap, a2, a3, a4, a5⟩
              have hpost : Hid (∀ W W' base A cap, Kds W base (.slice A fk cap) r → w.heap.size + 1 + 1 < base → w.heap.size ≤ base → W.grownBy W' (some (w.heap.size + 1 + 1)) → PBox W' P L2 c2 → w.grownBy W' (some P) → FormPost w P (d + 1) c L (.returned (.agg #[.int .i64 k, .int .i64 0, .int .i64 0, .int .i64 0, .int .i64 0, .slice A fk cap])) W') := by
                intro W W' base A cap hKd hb1 hb2 hg hP hgw
                obtain ⟨-, hrow⟩ := hKd.row
                unfold FormPost
                rw [hpar]
                refine ⟨A, cap, by show _ = Ending.returned (.agg #[.int .i64 k, .int .i64 0, .int .i64 0, .int .i64 0, .int .i64 0, .slice A r.length cap]); rw [hrl], FmIn.shut (frm_wf hk) (show Pr.zero.wf from ⟨by decide, by decide, by decide, by decide⟩) ((hrow.keep fun b o hb => World.cell?_of_block (w := W) (a := ⟨b, o, none⟩) (hg.block b hb.2 (by have := hb.1; simp; omega))).widen fun b hb => ⟨by have := hb.1; omega, Nat.lt_of_lt_of_le hb.2 hg.size⟩), hP, hgw⟩
              clear hq hR hRg hR5 hg5 hz5 hlt5 hp hpar hLf hfr hrl
              generalize frmN k = nm at *
              go_wp2_with (first | go_in)
              generalize hW : World.alloc w5 _ = W6
              have hS6 : Hid (FSt w W6 P wi L cc) := by subst hW; exact hS5.out.alloc _
              have hb7 : Hid (W6.heap[w5.heap.size]? = some (.cells #[strV nm, .int .i64 fk] 89 (0, 0))) := by subst hW; exact alloc_at rfl
              have hz7 : w.heap.size + 1 + 1 < w5.heap.size := hS5.out.sz
              clear hW hS5
              have q0 := hS6.out.n0
              have hlen := hE2.out.cons_
              obtain ⟨b, off, cap, t0, hb, hl1, hl2, hl3, -, -, -, -, hTk⟩ := hS6.out.box.hd HE.out
              have hf0 := hS6.out.box.f0 0
              have s3 : 1 < L.length := by
                obtain ⟨t, M, he⟩ := hlen
                have := congrArg List.length he
                rw [List.length_tail] at this
                simp at this
                omega
              have hne : L ≠ [] := by intro h; rw [h] at s3; simp at s3
              have htk := hid (hS6.out.box.take hne hTk)
              rw [List.length_tail] at htk
              unfold maxLen at hl3
              generalize L.length = m at *
              have s1 : (1 : Int) ≤ m := by omega
              have s2 : (m : Int) ≤ cap := by omega
              have s4 : ¬ cap = 1 := by omega
              have s5 : (1 : Int) < cap := by omega
              have s6 : 1 < cap := by omega
              clear hlen hne hTk
              go_still_tail 8, (by kernel_rfl)
              change wpList _ _ _ _ _ W6.drew
              have t0 : W6.drew.cell? ⟨P, 0, none⟩ = some (.slice (some ⟨b, off, none⟩) m cap) := t0
              have hf0 : W6.drew.frozen? ⟨P, 0, none⟩ = false := hf0
              go_upto_region 15 with fail
              generalize hW : World.drew (World.setCell W6 _ _) = W7
              have hS7 : Hid (FSt w W7 P wi L.tail cc) := by
                subst hW
                exact hS6.out.next (grown_drew (grown_set _ _ _ _)) (fun k e => .inl (Option.some.inj e).symm) htk.out.drew
              have hb8 : Hid (W7.heap[w5.heap.size]? = some (.cells #[strV nm, .int .i64 fk] 89 (0, 0))) := by
                have hlt' := hS7.out.lt
                subst hW
                exact (Below.heap_setCell _ _ _ _ (by show w5.heap.size ≠ P; omega)).trans hb7.out
              have hw7 : w5.heap.size < W7.heap.size := (Array.getElem?_eq_some_iff.1 hb8.out).1
              clear hW hS6 hb7 htk t0 hf0
              have hmf : ∀ (fn : Fn) (first cap : Array Value) (w : World), (Instr.makeFunc fn first cap).run Tryz.prog w = .ok (.func fn first cap) w := fun _ _ _ _ => rfl
              go_upto_region 16 with fail
              generalize hW : World.alloc W7 _ = W8
              have hB8 : Hid (W8.heap[W7.heap.size]? = some (fmO k Pr.zero (.slice none 0 0))) := by subst hW; exact alloc_at rfl
              have hS8 : Hid (FSt w W8 P wi L.tail cc) := by subst hW; exact hS7.out.alloc _
              have hz8 : W8.heap.size = W7.heap.size + 1 := by subst hW; simp
              have hb9 : W8.heap[w5.heap.size]? = some (.cells #[strV nm, .int .i64 fk] 89 (0, 0)) := by subst hW; exact (Below.heap_alloc _ _ _ hw7).trans hb8.out
              have y0 := cell_of_heap (j := 0) hb9
              have y1 := cell_of_heap (j := 1) hb9
              simp at y0 y1
              have q0 := hS8.out.n0
              have hKS : Hid (KSt (W7.heap.size + 1) W8 W8 P W7.heap.size w.heap.size (w.heap.size + 1) wi k (.slice none 0 0) []) := by
                have hl := hS8.out.lt
                exact ⟨.refl _ _ _ _, hB8.out, Kds.nil, by omega, ⟨by omega, by omega⟩, ⟨hS8.out.n0, by omega, by omega, by omega⟩, ⟨hS8.out.n1, by omega, by omega, by omega⟩⟩
              have hc8 := hid (hcall.out W8 (W7.heap.size + 1) W7.heap.size hKS.out hS8.out (by omega))
              clear hb8 hb9 hW hS7 hKS
              go_wp2_with (first
                | (go_at_call 47
                   with_reducible refine hc8.out.mono ?_
                   rintro e w9 ⟨rfl, A9, cap9, hB9, hKd9, hb9, hbut9⟩
                   have hS9 := hid (hS8.out.but3 hbut9 (by omega) (by omega) hb9)
                   obtain ⟨v9, vf, v0, v1, v2, v3, v4, v5⟩ := fmO_cells hB9
                   simp only [Pr.zero] at v1 v2 v3 v4
                   have hKd := hid hKd9
                   have hz9 := hbut9.size
                   have hR8 := hS9.out.n2
                   have z0 := cell_of_heap (j := 0) hR8
                   have z1 := cell_of_heap (j := 1) hR8
                   have z2 := cell_of_heap (j := 2) hR8
                   have z3 := cell_of_heap (j := 3) hR8
                   have z4 := cell_of_heap (j := 4) hR8
                   have z5 := cell_of_heap (j := 5) hR8
                   simp at z0 z1 z2 z3 z4 z5
                   have zf : ∀ j, w9.frozen? ⟨w.heap.size + 1 + 1, j, none⟩ = false := fun j => unfrozen (j := j) hR8
                   have zl := hS9.out.sz
                   clear hb9 hbut9 hR8 hB9 hKd9)
                | fail)
              have hr6 := res6 (c0 := .int .i64 k) (c1 := .int .i64 0) (c2 := .int .i64 0) (c3 := .int .i64 0) (c4 := .int .i64 0) (c5 := .slice A9 fk cap9) hS9.out.n2
              have x0 := cell_of_heap (j := 0) hr6
              have x1 := cell_of_heap (j := 1) hr6
              have x2 := cell_of_heap (j := 2) hr6
              have x3 := cell_of_heap (j := 3) hr6
              have x4 := cell_of_heap (j := 4) hr6
              have x5 := cell_of_heap (j := 5) hr6
              simp at x0 x1 x2 x3 x4 x5
              have hfr := hS9.out.res (.int .i64 k) (.int .i64 0) (.int .i64 0) (.int .i64 0) (.int .i64 0) (.slice A9 fk cap9)
              exact bodyPost_ret (v := .agg #[.int .i64 k, .int .i64 0, .int .i64 0, .int .i64 0, .int .i64 0, .slice A9 fk cap9]) (by simp [results, Tryz.results26, go_sem, x0, x1, x2, x3, x4, x5]) rfl (hpost.out w9 _ (W7.heap.size + 1) A9 cap9 hKd.out (by omega) (by omega) (six_grown _ _ _ _ _ _ _ _) hfr.2.1 hfr.2.2)
          · have hmb : (frmN k == tx) = false := by simpa using hm
            have hS5 := hid (hR.out.2.2.grown hg5 (fun q e => by have := (Option.some.inj e); omega))
            have hN5 : Hid (NoF tx (fun x => D2 x ∨ x = k)) := fun x hx => by
              rcases hx with hx | rfl
              · exact hR.out.2.1 x hx
              · exact hm
            have HR5 := hid hR5
            have hleft := hid (And.intro hRg.left_eq hlt5)
            clear hR hRg hR5 hg5 hz5 hlt5 hp
            generalize frmN k = nm at *
            generalize frmK k = fn at *
            go_wp2_with (first | go_in)
            go_roundw
            case rel => exact ⟨_, _, HR5.out.keep ((Below.refl _ _).alloc (Nat.le_refl _) _), hN5.out, hS5.out.alloc _⟩
            case measure => rw [hleft.out.1, (HR5.out.keep ((Below.refl _ _).alloc (Nat.le_refl _) _)).left_eq]; exact hleft.out.2
    · intro k pv hp w5 cnt5 hR5 hlt5 hg5 hz5 hen
      obtain ⟨hk, hv⟩ := shpT_mem (k, pv) hp
      simp only at hk hv
      rw [shpV_eq hk] at hv
      subst hv
      by_cases hm : shpN k = tx
      · subst hm
        have hS5 := hid (hR.out.2.2.grown hg5 (fun q e => by have := (Option.some.inj e); omega))
        have hsh : shpW (hdT L).text = some k := by rw [Htx.out]; exact shpW_shpN hk
        have hpar := parL_shp (d := d) hc hsh
        have hLf := (Lft.refl HE.out).tail (.inr (text_ne hsh))
        have hE2 := hid hLf.ends
        have hT2 := hLf.tn HT.out
        cases hq : numsQ (offs k).length L.tail with
        | bad er pl =>
          rw [hq] at hpar
          have hcall : Hid (∀ W, PBox W P L.tail cc → w.grownBy W (some P) → Calls Tryz.prog 46 #[.pointer (some ⟨P, 0, none⟩), .int .i64 k, .agg #[strV (shpN k), .func (.func (shpFn k)) #[] #[]]] W (fun e W' => e = wrongP er pl ∧ FormPost w P (d + 1) c L (wrongP er pl) W')) := fun W hP hg => by
            refine (prop_any hk P L.tail cc W hP hE2.out).mono ?_
            intro e W' hA
            unfold AtomPost at hA
            rw [hq] at hA
            refine ⟨hA.1, ?_⟩
            unfold FormPost
            rw [hpar]
            exact ⟨rfl, grown_trans hg hA.2⟩
          clear hq
          clear hR hRg hR5 hg5 hz5 hlt5 hp hsh hpar hLf hT2
          generalize shpN k = nm at *
          generalize shpFn k = fn at *
          go_wp2_with (first | go_in)
          generalize hW : World.alloc w5 _ = W6
          have hS6 : Hid (FSt w W6 P wi L cc) := by subst hW; exact hS5.out.alloc _
          have hb7 : Hid (W6.heap[w5.heap.size]? = some (.cells #[strV nm, .func (.func fn) #[] #[]] 81 (0, 0))) := by subst hW; exact alloc_at rfl
          have hz7 : w.heap.size + 1 + 1 < w5.heap.size := hS5.out.sz
          clear hW hS5
          have q0 := hS6.out.n0
          have hlen := hE2.out.cons_
          obtain ⟨b, off, cap, t0, hb, hl1, hl2, hl3, -, -, -, -, hTk⟩ := hS6.out.box.hd HE.out
          have hf0 := hS6.out.box.f0 0
          have s3 : 1 < L.length := by
            obtain ⟨t, M, he⟩ := hlen
            have := congrArg List.length he
            rw [List.length_tail] at this
            simp at this
            omega
          have hne : L ≠ [] := by intro h; rw [h] at s3; simp at s3
          have htk := hid (hS6.out.box.take hne hTk)
          rw [List.length_tail] at htk
          unfold maxLen at hl3
          generalize L.length = m at *
          have s1 : (1 : Int) ≤ m := by omega
          have s2 : (m : Int) ≤ cap := by omega
          have s4 : ¬ cap = 1 := by omega
          have s5 : (1 : Int) < cap := by omega
          have s6 : 1 < cap := by omega
          clear hlen hne hTk
          go_still_tail 8, (by kernel_rfl)
          change wpList _ _ _ _ _ W6.drew
          have t0 : W6.drew.cell? ⟨P, 0, none⟩ = some (.slice (some ⟨b, off, none⟩) m cap) := t0
          have hf0 : W6.drew.frozen? ⟨P, 0, none⟩ = false := hf0
          go_upto_region 9 with fail
          generalize hW : World.drew (World.setCell W6 _ _) = W7
          have hS7 : Hid (FSt w W7 P wi L.tail cc) := by
            subst hW
            exact hS6.out.next (grown_drew (grown_set _ _ _ _)) (fun k e => .inl (Option.some.inj e).symm) htk.out.drew
          have hb8 : W7.heap[w5.heap.size]? = some (.cells #[strV nm, .func (.func fn) #[] #[]] 81 (0, 0)) := by
            have hlt' := hS7.out.lt
            subst hW
            exact (Below.heap_setCell _ _ _ _ (by show w5.heap.size ≠ P; omega)).trans hb7.out
          have y0 := cell_of_heap (j := 0) hb8
          have y1 := cell_of_heap (j := 1) hb8
          simp at y0 y1
          have q0 := hS7.out.n0
          clear hW hS6 hb7 hb8 htk t0 hf0
          have hc7 := hid (hcall.out W7 hS7.out.box hS7.out.gr)
          go_wp2_with (first
            | (go_at_call 46
               with_reducible refine hc7.out.mono ?_
               rintro e w8 ⟨rfl, hF8⟩
               have hF8 := hid hF8)
            | fail)
          exact ⟨rfl, hF8.out⟩
        | ok x =>
          obtain ⟨r, L2⟩ := x
          rw [hq] at hpar
          have hcall : Hid (∀ W, PBox W P L.tail cc → w.grownBy W (some P) → Calls Tryz.prog 46 #[.pointer (some ⟨P, 0, none⟩), .int .i64 k, .agg #[strV (shpN k), .func (.func (shpFn k)) #[] #[]]] W (fun e W' => e = .returned (.agg #[.int .i64 3, .int .i64 (ofP k r).k, .int .i64 (ofP k r).t, .int .i64 (ofP k r).a, .int .i64 (ofP k r).n, .slice none 0 0]) ∧ PBox W' P L2 cc ∧ W.grownBy W' (some P))) := fun W hP hg => by
            refine (prop_any hk P L.tail cc W hP hE2.out).mono ?_
            intro e W' hA
            unfold AtomPost at hA
            rw [hq] at hA
            exact hA
          have hpost : Hid (∀ W', PBox W' P L2 cc → w.grownBy W' (some P) → FormPost w P (d + 1) c L (.returned (.agg #[.int .i64 3, .int .i64 (ofP k r).k, .int .i64 (ofP k r).t, .int .i64 (ofP k r).a, .int .i64 (ofP k r).n, .slice none 0 0])) W') := by
            intro W' hb hg
            have hnum := (numsL_spec (offs k).length [40] L.tail hE2.out hT2).1
            have hr : r.length = (offs k).length ∧ ∀ x ∈ r, 0 ≤ x ∧ x ≤ 999999 := by
              unfold numsQ at hq
              cases hx : numsL (offs k).length [40] L.tail with
              | bad e i => rw [hx] at hq; cases hq
              | ok x =>
                rw [hx] at hq
                simp only [] at hq
                cases hy : shutP (offs k).length x.2 with
                | bad e i => rw [hy] at hq; cases hq
                | ok y =>
                  rw [hy] at hq
                  cases hq
                  exact (hnum _ _ hx).2
            unfold FormPost
            rw [hpar]
            refine ⟨none, 0, rfl, FmIn.shut (by show (Lit.int .i64 3).wf = true; decide) (okP_wf (okP_of hk hr.1 hr.2)) FmRow.nil_, by rw [← Hcc.out]; exact hb, hg⟩
          clear hq
          generalize ofP k r = pp at *
          clear hR hRg hR5 hg5 hz5 hlt5 hp hsh hpar hLf hT2
          generalize shpN k = nm at *
          generalize shpFn k = fn at *
          go_wp2_with (first | go_in)
          generalize hW : World.alloc w5 _ = W6
          have hS6 : Hid (FSt w W6 P wi L cc) := by subst hW; exact hS5.out.alloc _
          have hb7 : Hid (W6.heap[w5.heap.size]? = some (.cells #[strV nm, .func (.func fn) #[] #[]] 81 (0, 0))) := by subst hW; exact alloc_at rfl
          have hz7 : w.heap.size + 1 + 1 < w5.heap.size := hS5.out.sz
          clear hW hS5
          have q0 := hS6.out.n0
          have hlen := hE2.out.cons_
          obtain ⟨b, off, cap, t0, hb, hl1, hl2, hl3, -, -, -, -, hTk⟩ := hS6.out.box.hd HE.out
          have hf0 := hS6.out.box.f0 0
          have s3 : 1 < L.length := by
            obtain ⟨t, M, he⟩ := hlen
            have := congrArg List.length he
            rw [List.length_tail] at this
            simp at this
            omega
          have hne : L ≠ [] := by intro h; rw [h] at s3; simp at s3
          have htk := hid (hS6.out.box.take hne hTk)
          rw [List.length_tail] at htk
          unfold maxLen at hl3
          generalize L.length = m at *
          have s1 : (1 : Int) ≤ m := by omega
          have s2 : (m : Int) ≤ cap := by omega
          have s4 : ¬ cap = 1 := by omega
          have s5 : (1 : Int) < cap := by omega
          have s6 : 1 < cap := by omega
          clear hlen hne hTk
          go_still_tail 8, (by kernel_rfl)
          change wpList _ _ _ _ _ W6.drew
          have t0 : W6.drew.cell? ⟨P, 0, none⟩ = some (.slice (some ⟨b, off, none⟩) m cap) := t0
          have hf0 : W6.drew.frozen? ⟨P, 0, none⟩ = false := hf0
          go_upto_region 9 with fail
          generalize hW : World.drew (World.setCell W6 _ _) = W7
          have hS7 : Hid (FSt w W7 P wi L.tail cc) := by
            subst hW
            exact hS6.out.next (grown_drew (grown_set _ _ _ _)) (fun k e => .inl (Option.some.inj e).symm) htk.out.drew
          have hb8 : W7.heap[w5.heap.size]? = some (.cells #[strV nm, .func (.func fn) #[] #[]] 81 (0, 0)) := by
            have hlt' := hS7.out.lt
            subst hW
            exact (Below.heap_setCell _ _ _ _ (by show w5.heap.size ≠ P; omega)).trans hb7.out
          have y0 := cell_of_heap (j := 0) hb8
          have y1 := cell_of_heap (j := 1) hb8
          simp at y0 y1
          have q0 := hS7.out.n0
          clear hW hS6 hb7 hb8 htk t0 hf0
          have hc7 := hid (hcall.out W7 hS7.out.box hS7.out.gr)
          go_wp2_with (first
            | (go_at_call 46
               with_reducible refine hc7.out.mono ?_
               rintro e w8 ⟨rfl, hb9, hg9⟩
               have hS8 := hid (hS7.out.next hg9 (fun k e => .inl (Option.some.inj e).symm) hb9)
               have hR8 := hS8.out.n2
               have z0 := cell_of_heap (j := 0) hR8
               have z1 := cell_of_heap (j := 1) hR8
               have z2 := cell_of_heap (j := 2) hR8
               have z3 := cell_of_heap (j := 3) hR8
               have z4 := cell_of_heap (j := 4) hR8
               have z5 := cell_of_heap (j := 5) hR8
               simp at z0 z1 z2 z3 z4 z5
               have zf : ∀ j, w8.frozen? ⟨w.heap.size + 1 + 1, j, none⟩ = false := fun j => unfrozen (j := j) hR8
               have zl := hS8.out.sz
               clear hb9 hg9 hR8)
            | fail)
          have hr6 := res6 (c0 := .int .i64 3) (c1 := .int .i64 pp.k) (c2 := .int .i64 pp.t) (c3 := .int .i64 pp.a) (c4 := .int .i64 pp.n) (c5 := .slice none 0 0) hS8.out.n2
          have x0 := cell_of_heap (j := 0) hr6
          have x1 := cell_of_heap (j := 1) hr6
          have x2 := cell_of_heap (j := 2) hr6
          have x3 := cell_of_heap (j := 3) hr6
          have x4 := cell_of_heap (j := 4) hr6
          have x5 := cell_of_heap (j := 5) hr6
          simp at x0 x1 x2 x3 x4 x5
          have hfr := hS8.out.res (.int .i64 3) (.int .i64 pp.k) (.int .i64 pp.t) (.int .i64 pp.a) (.int .i64 pp.n) (.slice none 0 0)
          exact bodyPost_ret (v := .agg #[.int .i64 3, .int .i64 pp.k, .int .i64 pp.t, .int .i64 pp.a, .int .i64 pp.n, .slice none 0 0]) (by simp [results, Tryz.results26, go_sem, x0, x1, x2, x3, x4, x5]) rfl (hpost.out _ hfr.2.1 hfr.2.2)
      · have hmb : (shpN k == tx) = false := by simpa using hm
        have hS5 := hid (hR.out.2.2.grown hg5 (fun q e => by have := (Option.some.inj e); omega))
        have hN5 : Hid (NoS tx (fun x => D x ∨ x = k)) := fun x hx => by
          rcases hx with hx | rfl
          · exact hR.out.2.1 x hx
          · exact hm
        have HR5 := hid hR5
        have hleft := hid (And.intro hRg.left_eq hlt5)
        clear hR hRg hR5 hg5 hz5 hlt5 hp
        generalize shpN k = nm at *
        generalize shpFn k = fn at *
        go_wp2_with (first | go_in)
        go_roundw
        case rel => exact ⟨_, _, HR5.out.keep ((Below.refl _ _).alloc (Nat.le_refl _) _), hN5.out, hS5.out.alloc _⟩
        case measure => rw [hleft.out.1, (HR5.out.keep ((Below.refl _ _).alloc (Nat.le_refl _) _)).left_eq]; exact hleft.out.2

/-- formula, within whatever depth. -/
theorem formula_any : ∀ d, d ≤ 20 → FormAt d
  | 0, _ => fun P c L wi w hwi hc hP hE _ => formula_long 0 P c L wi w hwi (by omega) hc (.inl rfl) hP hE
  | d + 1, hd => fun P c L wi w hwi hc hP hE hT => by
    by_cases h : c = 200
    · exact formula_long (d + 1) P c L wi w hwi hd hc (.inr h) hP hE
    · exact formula_some d (formula_any d (by omega)) (by omega) P c L wi w (by omega) (by omega) hP hE hT
end Go.Proofs.YtogopcejapklgaaGreatDoor
