/- The document's texts: statements, programs. -/
import Derived.Test.YtphlbbnmligadaaGreatDoorPrR
import Derived.Test.YtphlbbnmligadaaGreatDoorBunM
namespace Go.Proofs.YtphlbbnmligadaaGreatDoor
open Go.RowKit

theorem text_any {dom : Int} (hdom : dom ≤ 16) : ∀ (d : Nat), d ≤ 20 → ∀ x : Ex, x.fit dom d = true → TxtC x
  | 0, _, x, h => by unfold Ex.fit at h; cases h
  | d + 1, hd, x, h => text_step dom hdom d (by omega) (fun y hy => text_any hdom d (by omega) y hy) x h
theorem strL_data (s : ByteArray) : strL s.data.toList = s := by cases s; rfl

/-- Bounds of texts. -/
theorem stB_len {vs : List ByteArray} (hv : vs.all nameB = true) {dom : Int} (x : St) : ∀ n, okS vs.length dom n x = true → (stB vs x).length + 1 ≤ 20000010 * cntS x := by
  have hL : ∀ l : List St, (∀ x ∈ l, (stB vs x).length + 1 ≤ 20000010 * cntS x) → ∀ i, i ≤ l.length → (lnsB vs (l.take i)).length ≤ 20000010 * cntL (l.take i) := by
    intro l h i
    induction i with
    | zero => intro _; simp [lnsB]
    | succ i ih =>
      intro hi
      have := ih (by omega)
      have h2 := h l[i] (List.getElem_mem (by omega))
      rw [lnsB_take vs l i (by omega), cntL_take l i (by omega)]
      simp only [List.length_append, List.length_cons, List.length_nil]
      omega
  induction x using St.ind with
  | h k r v a b t e iht ihe =>
    intro n h
    rcases n with _ | n
    · simp [okS] at h
    rw [okS_succ, okF_mk] at h
    simp only [Bool.and_eq_true] at h
    have ht : okL vs.length dom n t = true := h.1.2
    have he : okL vs.length dom n e = true := h.2
    unfold okL at ht he
    simp only [List.all_eq_true] at ht he
    have hp := h.1.1.1.1.2
    unfold partL at hp
    simp only [Bool.and_eq_true] at hp
    have hone : ∀ (z : Ex) (b : Bool), oneL z dom b = true → z.txt.length ≤ 9437178 := fun z b hz => by
      unfold oneL at hz
      cases b with
      | true => exact Ex.txt_le hz
      | false =>
        rcases z with ⟨k, n, o, l⟩
        have hz' : (Ex.mk k n o l).none = true := hz
        simp only [Ex.none, Bool.and_eq_true, beq_iff_eq, List.isEmpty_iff] at hz'
        obtain ⟨⟨⟨rfl, rfl⟩, rfl⟩, rfl⟩ := hz'
        rw [Ex.txt_eq]
        simp
    have h1 := hL t (fun x hx => iht x hx n (ht x hx)) t.length (Nat.le_refl _)
    have h2 := hL e (fun x hx => ihe x hx n (he x hx)) e.length (Nat.le_refl _)
    rw [List.take_length] at h1 h2
    have h3 := lnF_len hv k r v a b (decide (e.length ≠ 0)) (blkB vs t) (blkB vs e) (hone _ _ hp.1.2) (hone _ _ hp.2)
    rw [stB_eq, cntS_mk]
    show (lnF vs k r v a b (decide (e.length ≠ 0)) (blkB vs t) (blkB vs e)).length + 1 ≤ _
    have h4 : (blkB vs t).length = 3 + (lnsB vs t).length := by unfold blkB; simp only [List.length_append, List.length_cons, List.length_nil]; omega
    have h5 : (blkB vs e).length = 3 + (lnsB vs e).length := by unfold blkB; simp only [List.length_append, List.length_cons, List.length_nil]; omega
    omega
theorem lnsB_len {vs : List ByteArray} (hv : vs.all nameB = true) {dom : Int} {n : Nat} {l : List St} (h : okL vs.length dom n l = true) (i : Nat) (hi : i ≤ l.length) : (lnsB vs (l.take i)).length ≤ 20000010 * cntL l := by
  unfold okL at h
  simp only [List.all_eq_true] at h
  have hc := cntL_le l i
  have : ∀ i, i ≤ l.length → (lnsB vs (l.take i)).length ≤ 20000010 * cntL (l.take i) := by
    intro i
    induction i with
    | zero => intro _; simp [lnsB]
    | succ i ih =>
      intro hi
      have := ih (by omega)
      have h2 := stB_len hv l[i] n (h l[i] (List.getElem_mem (by omega)))
      rw [lnsB_take vs l i (by omega), cntL_take l i (by omega)]
      simp only [List.length_append, List.length_cons, List.length_nil]
      omega
  have := this i hi
  omega
theorem blkB_len {vs : List ByteArray} (hv : vs.all nameB = true) {dom : Int} {n : Nat} {l : List St} (h : okL vs.length dom n l = true) (hc : cntL l ≤ 200) : (blkB vs l).length ≤ 4000002010 := by
  have := lnsB_len hv h l.length (Nat.le_refl _)
  rw [List.take_length] at this
  unfold blkB
  simp only [List.length_append, List.length_cons, List.length_nil]
  omega

def RStC (vs : List ByteArray) (dom : Int) (n : Nat) : Prop := ∀ (x : St), okS vs.length dom n x = true → cntS x ≤ 200 → ∀ (va : Option Addr) (cv : Nat) (cs : List Value) (w : World), VrIn w (In_ w) va vs.length cv vs → StIn w (In_ w) cs x →
  Calls Tryz.prog 103 #[.agg cs.toArray, .slice va vs.length cv] w fun e w' => e = .returned (.string (strL (stB vs x ++ [10]))) ∧ Below w.heap.size w w'
def RBlC (vs : List ByteArray) (dom : Int) (n : Nat) : Prop := ∀ (l : List St), okL vs.length dom n l = true → cntL l ≤ 200 → ∀ (va : Option Addr) (cv : Nat) (a : Option Addr) (cap : Nat) (w : World), VrIn w (In_ w) va vs.length cv vs → StRow w (In_ w) a l.length cap l →
  Calls Tryz.prog 64 #[.slice a l.length cap, .slice va vs.length cv] w fun e w' => e = .returned (.string (strL (blkB vs l))) ∧ Below w.heap.size w w'

set_option maxRecDepth 100000 in
set_option maxHeartbeats 4000000 in
theorem rblock_step (vs : List ByteArray) (hv : vs.all nameB = true) (dom : Int) (n : Nat) (ih : RStC vs dom n) : RBlC vs dom n := by
  intro l hok hcnt va cv a cap w hvr hin
  have hle := hin.le
  have hmx := hin.mx
  unfold maxLen at hmx
  have Hin := hid hin
  have Hvr := hid hvr
  have Hok := hid hok
  clear hin hvr hok
  go_enter Tryz.func64, Tryz.ntmps64
  go_wp2_with fail
  go_loopw [5, 6] (fun s i wr => ∃ (q : Nat) (S : ByteArray), q ≤ l.length ∧ i = .int .i64 q ∧ s = .string S ∧ Hid (S = strL ([123, 10] ++ lnsB vs (l.take q))) ∧ Kp w wr) (fun _ i _ => l.length - (intOf i).toNat)
  case atStart => exact ⟨0, _, Nat.zero_le _, rfl, rfl, rfl, Kp.refl _⟩
  case round =>
    obtain ⟨q, S, hq, rfl, rfl, hS, hK⟩ := hrel
    by_cases hlt : q < l.length
    · have q0 : (0 : Int) ≤ q := by omega
      have q1 : (q : Int) < l.length := by omega
      have g0 := hK.1.size
      obtain ⟨b, off, u0, u1, u2, u3, v0, v1, v2, v3, ta, ea, tc, ec, rfl, hb, ⟨e0, e1, e2⟩, ⟨e3, e4, e5, e6⟩, ⟨e7, e8, e9, e10⟩, ⟨e11, e12⟩, -, hst⟩ := Hin.out.at_ q hlt
      have hbl : b < w.heap.size := hb
      have g3 : b < wr.heap.size := by omega
      have hokx : okS vs.length dom n l[q] = true := by
        have h := Hok.out
        unfold okL at h
        exact List.all_eq_true.1 h _ (List.getElem_mem hlt)
      have hcx : cntS l[q] ≤ 200 := by
        have h1 := cntL_take l q hlt
        have h2 := cntL_le l (q + 1)
        omega
      have hcall := hid (ih l[q] hokx hcx va cv _ wr (hK.vr Hvr.out) (hK.st hst))
      have hl1 := lnsB_len hv Hok.out q (by omega)
      have hl2 := stB_len hv l[q] n hokx
      obtain ⟨t1, h1⟩ : ∃ t, t = ([123, 10] ++ lnsB vs (l.take q)) ++ (stB vs l[q] ++ [10]) := ⟨_, rfl⟩
      have a1 := add_str (a := [123, 10] ++ lnsB vs (l.take q)) (b := stB vs l[q] ++ [10]) (by simp only [List.length_append, List.length_cons, List.length_nil]; omega) h1
      obtain ⟨T1, hT1⟩ : ∃ T, T = strL t1 := ⟨_, rfl⟩
      have hfin : Hid (T1 = strL ([123, 10] ++ lnsB vs (l.take (q + 1)))) := by
        show _ = _
        rw [hT1, h1, lnsB_take vs l q hlt]
        simp only [List.append_assoc]
      rw [← hS.out, ← hT1] at a1
      generalize strL (stB vs l[q] ++ [10]) = S2 at *
      generalize l[q] = x at *
      have HK := hid hK
      clear hst hokx hcx hl1 hl2 h1 hS hT1
      go_wp2_with (first
        | (go_at_call 103
           with_reducible refine hcall.out.mono ?_
           rintro e w1 ⟨rfl, hb1⟩
           have HK1 := hid (HK.out.next hb1)
           clear hb1)
        | fail)
      go_roundw
      case rel => exact ⟨q + 1, T1, by omega, by simp, rfl, hfin.out, HK1.out⟩
      case measure => simp [intOf]; omega
    · obtain rfl : q = l.length := by omega
      rw [List.take_length] at hS
      have hl1 := blkB_len hv Hok.out hcnt
      have a1 := add_str (a := [123, 10] ++ lnsB vs l) (b := [125]) (by unfold blkB at hl1; simp only [List.length_append, List.length_cons, List.length_nil] at hl1 ⊢; omega) (c := blkB vs l) rfl
      obtain ⟨T1, hT1⟩ : ∃ T, T = strL (blkB vs l) := ⟨_, rfl⟩
      rw [← hS.out, ← hT1] at a1
      simp only [strL] at a1
      have hfin := hid hT1
      have HK := hid hK
      clear hl1 hS hK hT1
      go_wp2_with fail
      go_ret
      exact ⟨by rw [← hfin.out]; rfl, HK.out.1⟩

theorem numL_true {n most : Int} (h : numL n most true = true) : 0 ≤ n ∧ n < most := by
  unfold numL at h
  simp only [if_true, Bool.and_eq_true, decide_eq_true_eq] at h
  exact h
theorem numL_small {n most : Int} {b : Bool} (h : numL n most b = true) (hm : most ≤ 100) : 0 ≤ n ∧ n < 100 := by
  cases b with
  | true => have := numL_true h; omega
  | false =>
    have h' : (n == 0) = true := h
    have := eq_of_beq h'
    omega

set_option maxRecDepth 100000 in
set_option maxHeartbeats 32000000 in
theorem rstmt_step (vs : List ByteArray) (hv : vs.all nameB = true) (dom : Int) (hdom : dom ≤ 16) (n : Nat) (ih : RBlC vs dom n) : RStC vs dom (n + 1) := by
  rintro ⟨k, r, v, a, b, t, e⟩ hok hcnt va cv cs w hvr hin
  obtain ⟨u0, u1, u2, u3, v0, v1, v2, v3, ta, ea, tc, ec, rfl, ha, hb, ht, he⟩ := hin.open_
  clear hin
  rw [okS_succ, okF_mk] at hok
  simp only [Bool.and_eq_true, decide_eq_true_eq] at hok
  obtain ⟨⟨⟨⟨⟨⟨hk1, hk2⟩, hp⟩, -⟩, -⟩, hot⟩, hoe⟩ := hok
  unfold partL at hp
  simp only [Bool.and_eq_true] at hp
  obtain ⟨⟨⟨p0, p1⟩, p2⟩, p3⟩ := hp
  rw [cntS_mk] at hcnt
  have htl := ht.le
  have hel := he.le
  have htm := ht.mx
  have hem := he.mx
  unfold maxLen at htm hem
  have Hvr := hid hvr
  generalize hW : w.alloc (.cells #[.int .i64 k, .int .i64 r, .int .i64 v, u0, u1, u2, u3, v0, v1, v2, v3, .slice ta t.length tc, .slice ea e.length ec] 56) = W0
  have hB : Below w.heap.size w W0 := by subst hW; exact (Below.refl _ _).alloc (Nat.le_refl _) _
  have z0 : w.heap.size < W0.heap.size := by subst hW; simp
  have c0 : W0.cell? ⟨w.heap.size, 0, none⟩ = some (.int .i64 k) := by subst hW; go_simp
  have c1 : W0.cell? ⟨w.heap.size, 1, none⟩ = some (.int .i64 r) := by subst hW; go_simp
  have c2 : W0.cell? ⟨w.heap.size, 2, none⟩ = some (.int .i64 v) := by subst hW; go_simp
  have c3 : W0.cell? ⟨w.heap.size, 3, none⟩ = some u0 := by subst hW; go_simp
  have c4 : W0.cell? ⟨w.heap.size, 4, none⟩ = some u1 := by subst hW; go_simp
  have c5 : W0.cell? ⟨w.heap.size, 5, none⟩ = some u2 := by subst hW; go_simp
  have c6 : W0.cell? ⟨w.heap.size, 6, none⟩ = some u3 := by subst hW; go_simp
  have c7 : W0.cell? ⟨w.heap.size, 7, none⟩ = some v0 := by subst hW; go_simp
  have c8 : W0.cell? ⟨w.heap.size, 8, none⟩ = some v1 := by subst hW; go_simp
  have c9 : W0.cell? ⟨w.heap.size, 9, none⟩ = some v2 := by subst hW; go_simp
  have c10 : W0.cell? ⟨w.heap.size, 10, none⟩ = some v3 := by subst hW; go_simp
  have c11 : W0.cell? ⟨w.heap.size, 11, none⟩ = some (.slice ta t.length tc) := by subst hW; go_simp
  have c12 : W0.cell? ⟨w.heap.size, 12, none⟩ = some (.slice ea e.length ec) := by subst hW; go_simp
  have HB := hid hB
  have hKB : Kp w W0 := Kp.of hB
  have HKB := hid hKB
  have hr := numL_small p0 (by decide)
  have hdg := digB_len r
  have htb := toB_len r
  have hnm := nmB_len hv v
  have hbt := blkB_len hv hot (by omega)
  have hbe := blkB_len hv hoe (by omega)
  have hDg := hid (fun W => digits_any r hr.1 hr.2 W)
  have hBT : Hid (∀ W, Kp W0 W → Calls Tryz.prog 64 #[.slice ta t.length tc, .slice va vs.length cv] W fun e w' => e = .returned (.string (strL (blkB vs t))) ∧ Below W.heap.size W w') := fun W hK => ih t hot (by omega) va cv ta tc W (hK.vr (hKB.vr hvr)) (hK.strow (hKB.strow ht))
  have hBE : Hid (∀ W, Kp W0 W → Calls Tryz.prog 64 #[.slice ea e.length ec, .slice va vs.length cv] W fun e' w' => e' = .returned (.string (strL (blkB vs e))) ∧ Below W.heap.size W w') := fun W hK => ih e hoe (by omega) va cv ea ec W (hK.vr (hKB.vr hvr)) (hK.strow (hKB.strow he))
  have hTA : Hid (a.fit dom 20 = true → ∀ W, Kp W0 W → Calls Tryz.prog 133 #[.agg #[u0, u1, u2, u3]] W fun e w' => e = .returned (.string (strL a.txt)) ∧ Below W.heap.size W w') := fun hf W hK => text_any hdom 20 (Nat.le_refl _) a hf [u0, u1, u2, u3] W (hK.ex (hKB.ex ha))
  have hTB : Hid (b.fit dom 20 = true → ∀ W, Kp W0 W → Calls Tryz.prog 133 #[.agg #[v0, v1, v2, v3]] W fun e w' => e = .returned (.string (strL b.txt)) ∧ Below W.heap.size W w') := fun hf W hK => text_any hdom 20 (Nat.le_refl _) b hf [v0, v1, v2, v3] W (hK.ex (hKB.ex hb))
  obtain ⟨g1, hg1⟩ : ∃ z, z = [114] ++ (digB r) := ⟨_, rfl⟩
  have lg1 : g1.length ≤ 20000000000 := by rw [hg1]; first | omega | (simp; done) | (simp; omega)
  have ag1 := add_str (a := [114]) (b := digB r) (by first | omega | (simp; done) | (simp; omega)) hg1
  obtain ⟨g2, hg2⟩ : ∃ z, z = g1 ++ [32, 61, 32] := ⟨_, rfl⟩
  have lg2 : g2.length ≤ 30000000000 := by rw [hg2]; first | omega | (simp; done) | (simp; omega)
  have ag2 := add_str (a := g1) (b := [32, 61, 32]) (by first | omega | (simp; done) | (simp; omega)) hg2
  have hgt : Hid (g2 = toB r) := by show _ = _; rw [hg2, hg1]; rfl
  rw [hgt.out] at ag2
  have o0 := ha.ones
  have o1 := hb.ones
  obtain ⟨oa0, oa1, oa2, oa3⟩ := o0
  obtain ⟨ob0, ob1, ob2, ob3⟩ := o1
  clear ha hb ht he hvr hKB hB hg1 hg2 lg1 lg2 hgt hot hoe hcnt ih
  have hk : k = 1 ∨ k = 2 ∨ k = 3 ∨ k = 4 ∨ k = 5 ∨ k = 6 ∨ k = 7 ∨ k = 8 ∨ k = 9 ∨ k = 10 ∨ k = 11 := by omega
  clear hk1 hk2
  rcases hk with rfl | rfl | rfl | rfl | rfl | rfl | rfl | rfl | rfl | rfl | rfl
  · skip
    have pv := numL_true p1
    obtain ⟨vn, hvn⟩ : ∃ vn : Nat, v = vn := ⟨v.toNat, by omega⟩
    subst hvn
    obtain ⟨vb, voff, rfl, hvb, y0⟩ := Hvr.out.at_ vn (by omega)
    have hvbl : vb < w.heap.size := hvb
    rw [← HKB.out.2 _ _ hvbl] at y0
    have hnv : strL (nmB vs vn) = vs[vn] := by unfold nmB; rw [Int.toNat_natCast, List.getElem?_eq_getElem (by omega), Option.getD_some]; exact strL_data _
    rw [← hnv] at y0
    have q0 : (0 : Int) ≤ (vn : Int) := by omega
    have q1 : (vn : Int) < vs.length := by omega
    have q2 : vb < W0.heap.size := by omega
    obtain ⟨t1, ht1⟩ : ∃ z, z = (toB r) ++ (nmB vs vn) := ⟨_, rfl⟩
    have lt1 : t1.length ≤ 20000000000 := by rw [ht1]; first | omega | (simp; done) | (simp; omega)
    have at1 := add_str (a := toB r) (b := nmB vs vn) (by first | omega | (simp; done) | (simp; omega)) ht1
    obtain ⟨t2, ht2⟩ : ∃ z, z = t1 ++ [59, 10] := ⟨_, rfl⟩
    have lt2 : t2.length ≤ 30000000000 := by rw [ht2]; first | omega | (simp; done) | (simp; omega)
    have at2 := add_str (a := t1) (b := [59, 10]) (by first | omega | (simp; done) | (simp; omega)) ht2
    have hfin : Hid (strL (stB vs (.mk 1 r vn a b t e) ++ [10]) = strL t2) := by
      show _ = _
      have e1 : stB vs (.mk 1 r vn a b t e) ++ [10] = t2 := by
        rw [stB_eq, ht2, ht1]
        show lnF vs 1 r vn a b (decide (e.length ≠ 0)) (blkB vs t) (blkB vs e) ++ [10] = _
        simp [lnF]
      rw [e1]
    clear ht1 lt1 ht2 lt2 hbt hbe hdg htb hnm p0 p1 p2 p3 hnv pv hvbl hvb
    generalize strL g1 = SG at *
    generalize strL (toB r) = SR at *
    generalize strL (digB r) = SD at *
    generalize strL (nmB vs vn) = SN at *
    generalize strL t1 = T0 at *
    generalize strL t2 = T1 at *
    simp only [strL] at ag1 ag2 at2
    have hWx := hid hW
    clear hW
    go_enter Tryz.func103, Tryz.ntmps103
    go_wp2_with fail
    rw [hWx.out]
    refine (hDg.out W0).mono ?_
    rintro e' w1 ⟨rfl, hb1⟩
    have hk1 : Kp W0 w1 := Kp.of hb1
    have s1 : w.heap.size < w1.heap.size := Nat.lt_of_lt_of_le z0 hb1.size
    have s2 : vb < w1.heap.size := Nat.lt_of_lt_of_le q2 hb1.size
    clear hb1
    go_wp2_with fail
    go_ret
    first
      | exact ⟨by rw [hfin.out]; rfl, Kp.fin HB.out hk1⟩
  · skip
    have pv := numL_true p1
    obtain ⟨vn, hvn⟩ : ∃ vn : Nat, v = vn := ⟨v.toNat, by omega⟩
    subst hvn
    obtain ⟨vb, voff, rfl, hvb, y0⟩ := Hvr.out.at_ vn (by omega)
    have hvbl : vb < w.heap.size := hvb
    rw [← HKB.out.2 _ _ hvbl] at y0
    have hnv : strL (nmB vs vn) = vs[vn] := by unfold nmB; rw [Int.toNat_natCast, List.getElem?_eq_getElem (by omega), Option.getD_some]; exact strL_data _
    rw [← hnv] at y0
    have q0 : (0 : Int) ≤ (vn : Int) := by omega
    have q1 : (vn : Int) < vs.length := by omega
    have q2 : vb < W0.heap.size := by omega
    have fa : a.fit dom 20 = true := p2
    have hal := Ex.txt_le fa
    have HA := hid (hTA.out fa)
    obtain ⟨t1, ht1⟩ : ∃ z, z = (nmB vs vn) ++ [32, 61, 32] := ⟨_, rfl⟩
    have lt1 : t1.length ≤ 20000000000 := by rw [ht1]; first | omega | (simp; done) | (simp; omega)
    have at1 := add_str (a := nmB vs vn) (b := [32, 61, 32]) (by first | omega | (simp; done) | (simp; omega)) ht1
    obtain ⟨t2, ht2⟩ : ∃ z, z = t1 ++ a.txt := ⟨_, rfl⟩
    have lt2 : t2.length ≤ 30000000000 := by rw [ht2]; first | omega | (simp; done) | (simp; omega)
    have at2 := add_str (a := t1) (b := a.txt) (by first | omega | (simp; done) | (simp; omega)) ht2
    obtain ⟨t3, ht3⟩ : ∃ z, z = t2 ++ [59, 10] := ⟨_, rfl⟩
    have lt3 : t3.length ≤ 40000000000 := by rw [ht3]; first | omega | (simp; done) | (simp; omega)
    have at3 := add_str (a := t2) (b := [59, 10]) (by first | omega | (simp; done) | (simp; omega)) ht3
    have hfin : Hid (strL (stB vs (.mk 2 r vn a b t e) ++ [10]) = strL t3) := by
      show _ = _
      have e1 : stB vs (.mk 2 r vn a b t e) ++ [10] = t3 := by
        rw [stB_eq, ht3, ht2, ht1]
        show lnF vs 2 r vn a b (decide (e.length ≠ 0)) (blkB vs t) (blkB vs e) ++ [10] = _
        simp [lnF]
      rw [e1]
    clear ht1 lt1 ht2 lt2 ht3 lt3 hbt hbe hdg htb hnm p0 p1 p2 p3 hal fa hnv pv hvbl hvb
    generalize strL g1 = SG at *
    generalize strL (toB r) = SR at *
    generalize strL (digB r) = SD at *
    generalize strL (nmB vs vn) = SN at *
    generalize strL a.txt = SA at *
    generalize strL t1 = T0 at *
    generalize strL t2 = T1 at *
    generalize strL t3 = T2 at *
    simp only [strL] at ag1 ag2 at1 at3
    have hWx := hid hW
    clear hW
    go_enter Tryz.func103, Tryz.ntmps103
    go_wp2_with fail
    rw [hWx.out]
    refine (hDg.out W0).mono ?_
    rintro e' w1 ⟨rfl, hb1⟩
    have hk1 : Kp W0 w1 := Kp.of hb1
    have s1 : w.heap.size < w1.heap.size := Nat.lt_of_lt_of_le z0 hb1.size
    have s2 : vb < w1.heap.size := Nat.lt_of_lt_of_le q2 hb1.size
    clear hb1
    go_wp2_with fail
    go_region_held3 (Kp W0)
      (first | exact Kp.drew hk1 | assumption)
      (first
        | (go_at_call 133
           with_reducible refine (HA.out _ ?_).mono ?_
           (focus assumption)
           rintro e' w2 ⟨rfl, hb2⟩
           have hk2 : Kp W0 w2 := Kp.next (by assumption) hb2
           clear hb2)
        | fail)
    all_goals
      go_wp2_with fail
      go_ret
      first
        | exact ⟨by rw [hfin.out]; rfl, Kp.fin HB.out hk2⟩
  · skip
    have fa : a.fit dom 20 = true := p2
    have hal := Ex.txt_le fa
    have HA := hid (hTA.out fa)
    obtain ⟨t1, ht1⟩ : ∃ z, z = (toB r) ++ a.txt := ⟨_, rfl⟩
    have lt1 : t1.length ≤ 20000000000 := by rw [ht1]; first | omega | (simp; done) | (simp; omega)
    have at1 := add_str (a := toB r) (b := a.txt) (by first | omega | (simp; done) | (simp; omega)) ht1
    obtain ⟨t2, ht2⟩ : ∃ z, z = t1 ++ [59, 10] := ⟨_, rfl⟩
    have lt2 : t2.length ≤ 30000000000 := by rw [ht2]; first | omega | (simp; done) | (simp; omega)
    have at2 := add_str (a := t1) (b := [59, 10]) (by first | omega | (simp; done) | (simp; omega)) ht2
    have hfin : Hid (strL (stB vs (.mk 3 r v a b t e) ++ [10]) = strL t2) := by
      show _ = _
      have e1 : stB vs (.mk 3 r v a b t e) ++ [10] = t2 := by
        rw [stB_eq, ht2, ht1]
        show lnF vs 3 r v a b (decide (e.length ≠ 0)) (blkB vs t) (blkB vs e) ++ [10] = _
        simp [lnF]
      rw [e1]
    clear ht1 lt1 ht2 lt2 hbt hbe hdg htb hnm p0 p1 p2 p3 hal fa
    generalize strL g1 = SG at *
    generalize strL (toB r) = SR at *
    generalize strL (digB r) = SD at *
    generalize strL a.txt = SA at *
    generalize strL t1 = T0 at *
    generalize strL t2 = T1 at *
    simp only [strL] at ag1 ag2 at2
    have hWx := hid hW
    clear hW
    go_enter Tryz.func103, Tryz.ntmps103
    go_wp2_with fail
    rw [hWx.out]
    refine (hDg.out W0).mono ?_
    rintro e' w1 ⟨rfl, hb1⟩
    have hk1 : Kp W0 w1 := Kp.of hb1
    have s1 : w.heap.size < w1.heap.size := Nat.lt_of_lt_of_le z0 hb1.size
    clear hb1
    go_wp2_with (first
      | (go_at_call 133
         with_reducible refine (HA.out _ hk1).mono ?_
         rintro e' w2 ⟨rfl, hb2⟩
         have hk2 : Kp W0 w2 := Kp.next (by assumption) hb2
         clear hb2)
      | fail)
    go_ret
    first
      | exact ⟨by rw [hfin.out]; rfl, Kp.fin HB.out hk2⟩
  · skip
    have hfin : Hid (strL (stB vs (.mk 4 r v a b t e) ++ [10]) = ⟨#[102, 101, 110, 99, 101, 59, 10]⟩) := by show _ = _; rw [stB_eq]; rfl
    clear  hbt hbe hdg htb hnm p0 p1 p2 p3
    generalize strL g1 = SG at *
    generalize strL (toB r) = SR at *
    generalize strL (digB r) = SD at *
    simp only [strL] at ag1 ag2 
    have hWx := hid hW
    clear hW
    go_enter Tryz.func103, Tryz.ntmps103
    go_wp2_with fail
    rw [hWx.out]
    refine (hDg.out W0).mono ?_
    rintro e' w1 ⟨rfl, hb1⟩
    have hk1 : Kp W0 w1 := Kp.of hb1
    have s1 : w.heap.size < w1.heap.size := Nat.lt_of_lt_of_le z0 hb1.size
    clear hb1
    go_wp2_with fail
    go_ret
    first
      | exact ⟨by rw [hfin.out]; rfl, Kp.fin HB.out hk1⟩
  · skip
    have hfin : Hid (strL (stB vs (.mk 5 r v a b t e) ++ [10]) = ⟨#[115, 102, 101, 110, 99, 101, 59, 10]⟩) := by show _ = _; rw [stB_eq]; rfl
    clear  hbt hbe hdg htb hnm p0 p1 p2 p3
    generalize strL g1 = SG at *
    generalize strL (toB r) = SR at *
    generalize strL (digB r) = SD at *
    simp only [strL] at ag1 ag2 
    have hWx := hid hW
    clear hW
    go_enter Tryz.func103, Tryz.ntmps103
    go_wp2_with fail
    rw [hWx.out]
    refine (hDg.out W0).mono ?_
    rintro e' w1 ⟨rfl, hb1⟩
    have hk1 : Kp W0 w1 := Kp.of hb1
    have s1 : w.heap.size < w1.heap.size := Nat.lt_of_lt_of_le z0 hb1.size
    clear hb1
    go_wp2_with fail
    go_ret
    first
      | exact ⟨by rw [hfin.out]; rfl, Kp.fin HB.out hk1⟩
  · skip
    have pv := numL_true p1
    obtain ⟨vn, hvn⟩ : ∃ vn : Nat, v = vn := ⟨v.toNat, by omega⟩
    subst hvn
    obtain ⟨vb, voff, rfl, hvb, y0⟩ := Hvr.out.at_ vn (by omega)
    have hvbl : vb < w.heap.size := hvb
    rw [← HKB.out.2 _ _ hvbl] at y0
    have hnv : strL (nmB vs vn) = vs[vn] := by unfold nmB; rw [Int.toNat_natCast, List.getElem?_eq_getElem (by omega), Option.getD_some]; exact strL_data _
    rw [← hnv] at y0
    have q0 : (0 : Int) ≤ (vn : Int) := by omega
    have q1 : (vn : Int) < vs.length := by omega
    have q2 : vb < W0.heap.size := by omega
    have fa : a.fit dom 20 = true := p2
    have hal := Ex.txt_le fa
    have HA := hid (hTA.out fa)
    have fb : b.fit dom 20 = true := p3
    have hbl := Ex.txt_le fb
    have HBb := hid (hTB.out fb)
    obtain ⟨t1, ht1⟩ : ∃ z, z = (toB r) ++ [99, 97, 115, 40] := ⟨_, rfl⟩
    have lt1 : t1.length ≤ 20000000000 := by rw [ht1]; first | omega | (simp; done) | (simp; omega)
    have at1 := add_str (a := toB r) (b := [99, 97, 115, 40]) (by first | omega | (simp; done) | (simp; omega)) ht1
    obtain ⟨t2, ht2⟩ : ∃ z, z = t1 ++ (nmB vs vn) := ⟨_, rfl⟩
    have lt2 : t2.length ≤ 30000000000 := by rw [ht2]; first | omega | (simp; done) | (simp; omega)
    have at2 := add_str (a := t1) (b := nmB vs vn) (by first | omega | (simp; done) | (simp; omega)) ht2
    obtain ⟨t3, ht3⟩ : ∃ z, z = t2 ++ [44, 32] := ⟨_, rfl⟩
    have lt3 : t3.length ≤ 40000000000 := by rw [ht3]; first | omega | (simp; done) | (simp; omega)
    have at3 := add_str (a := t2) (b := [44, 32]) (by first | omega | (simp; done) | (simp; omega)) ht3
    obtain ⟨t4, ht4⟩ : ∃ z, z = t3 ++ a.txt := ⟨_, rfl⟩
    have lt4 : t4.length ≤ 50000000000 := by rw [ht4]; first | omega | (simp; done) | (simp; omega)
    have at4 := add_str (a := t3) (b := a.txt) (by first | omega | (simp; done) | (simp; omega)) ht4
    obtain ⟨t5, ht5⟩ : ∃ z, z = t4 ++ [44, 32] := ⟨_, rfl⟩
    have lt5 : t5.length ≤ 60000000000 := by rw [ht5]; first | omega | (simp; done) | (simp; omega)
    have at5 := add_str (a := t4) (b := [44, 32]) (by first | omega | (simp; done) | (simp; omega)) ht5
    obtain ⟨t6, ht6⟩ : ∃ z, z = t5 ++ b.txt := ⟨_, rfl⟩
    have lt6 : t6.length ≤ 70000000000 := by rw [ht6]; first | omega | (simp; done) | (simp; omega)
    have at6 := add_str (a := t5) (b := b.txt) (by first | omega | (simp; done) | (simp; omega)) ht6
    obtain ⟨t7, ht7⟩ : ∃ z, z = t6 ++ [41, 59, 10] := ⟨_, rfl⟩
    have lt7 : t7.length ≤ 80000000000 := by rw [ht7]; first | omega | (simp; done) | (simp; omega)
    have at7 := add_str (a := t6) (b := [41, 59, 10]) (by first | omega | (simp; done) | (simp; omega)) ht7
    have hfin : Hid (strL (stB vs (.mk 6 r vn a b t e) ++ [10]) = strL t7) := by
      show _ = _
      have e1 : stB vs (.mk 6 r vn a b t e) ++ [10] = t7 := by
        rw [stB_eq, ht7, ht6, ht5, ht4, ht3, ht2, ht1]
        show lnF vs 6 r vn a b (decide (e.length ≠ 0)) (blkB vs t) (blkB vs e) ++ [10] = _
        simp [lnF]
      rw [e1]
    clear ht1 lt1 ht2 lt2 ht3 lt3 ht4 lt4 ht5 lt5 ht6 lt6 ht7 lt7 hbt hbe hdg htb hnm p0 p1 p2 p3 hal fa hbl fb hnv pv hvbl hvb
    generalize strL g1 = SG at *
    generalize strL (toB r) = SR at *
    generalize strL (digB r) = SD at *
    generalize strL (nmB vs vn) = SN at *
    generalize strL a.txt = SA at *
    generalize strL b.txt = SB at *
    generalize strL t1 = T0 at *
    generalize strL t2 = T1 at *
    generalize strL t3 = T2 at *
    generalize strL t4 = T3 at *
    generalize strL t5 = T4 at *
    generalize strL t6 = T5 at *
    generalize strL t7 = T6 at *
    simp only [strL] at ag1 ag2 at1 at3 at5 at7
    have hWx := hid hW
    clear hW
    go_enter Tryz.func103, Tryz.ntmps103
    go_wp2_with fail
    rw [hWx.out]
    refine (hDg.out W0).mono ?_
    rintro e' w1 ⟨rfl, hb1⟩
    have hk1 : Kp W0 w1 := Kp.of hb1
    have s1 : w.heap.size < w1.heap.size := Nat.lt_of_lt_of_le z0 hb1.size
    have s2 : vb < w1.heap.size := Nat.lt_of_lt_of_le q2 hb1.size
    clear hb1
    go_wp2_with fail
    go_region_held3 (Kp W0)
      (first | exact Kp.drew hk1 | assumption)
      (first
        | (go_at_call 133
           with_reducible refine (HA.out _ ?_).mono ?_
           (focus assumption)
           rintro e' w2 ⟨rfl, hb2⟩
           have hk2 : Kp W0 w2 := Kp.next (by assumption) hb2
           clear hb2)
        | (go_at_call 133
           with_reducible refine (HBb.out _ ?_).mono ?_
           (focus assumption)
           rintro e' w3 ⟨rfl, hb3⟩
           have hk3 : Kp W0 w3 := Kp.next (by assumption) hb3
           clear hb3)
        | fail)
    all_goals
      go_wp2_with fail
      go_ret
      first
        | exact ⟨by rw [hfin.out]; rfl, Kp.fin HB.out hk2⟩
        | exact ⟨by rw [hfin.out]; rfl, Kp.fin HB.out hk3⟩
  · skip
    have pv := numL_true p1
    obtain ⟨vn, hvn⟩ : ∃ vn : Nat, v = vn := ⟨v.toNat, by omega⟩
    subst hvn
    obtain ⟨vb, voff, rfl, hvb, y0⟩ := Hvr.out.at_ vn (by omega)
    have hvbl : vb < w.heap.size := hvb
    rw [← HKB.out.2 _ _ hvbl] at y0
    have hnv : strL (nmB vs vn) = vs[vn] := by unfold nmB; rw [Int.toNat_natCast, List.getElem?_eq_getElem (by omega), Option.getD_some]; exact strL_data _
    rw [← hnv] at y0
    have q0 : (0 : Int) ≤ (vn : Int) := by omega
    have q1 : (vn : Int) < vs.length := by omega
    have q2 : vb < W0.heap.size := by omega
    obtain ⟨t1, ht1⟩ : ∃ z, z = [108, 111, 99, 107, 32] ++ (nmB vs vn) := ⟨_, rfl⟩
    have lt1 : t1.length ≤ 20000000000 := by rw [ht1]; first | omega | (simp; done) | (simp; omega)
    have at1 := add_str (a := [108, 111, 99, 107, 32]) (b := nmB vs vn) (by first | omega | (simp; done) | (simp; omega)) ht1
    obtain ⟨t2, ht2⟩ : ∃ z, z = t1 ++ [59, 10] := ⟨_, rfl⟩
    have lt2 : t2.length ≤ 30000000000 := by rw [ht2]; first | omega | (simp; done) | (simp; omega)
    have at2 := add_str (a := t1) (b := [59, 10]) (by first | omega | (simp; done) | (simp; omega)) ht2
    have hfin : Hid (strL (stB vs (.mk 7 r vn a b t e) ++ [10]) = strL t2) := by
      show _ = _
      have e1 : stB vs (.mk 7 r vn a b t e) ++ [10] = t2 := by
        rw [stB_eq, ht2, ht1]
        show lnF vs 7 r vn a b (decide (e.length ≠ 0)) (blkB vs t) (blkB vs e) ++ [10] = _
        simp [lnF]
      rw [e1]
    clear ht1 lt1 ht2 lt2 hbt hbe hdg htb hnm p0 p1 p2 p3 hnv pv hvbl hvb
    generalize strL g1 = SG at *
    generalize strL (toB r) = SR at *
    generalize strL (digB r) = SD at *
    generalize strL (nmB vs vn) = SN at *
    generalize strL t1 = T0 at *
    generalize strL t2 = T1 at *
    simp only [strL] at ag1 ag2 at1 at2
    have hWx := hid hW
    clear hW
    go_enter Tryz.func103, Tryz.ntmps103
    go_wp2_with fail
    rw [hWx.out]
    refine (hDg.out W0).mono ?_
    rintro e' w1 ⟨rfl, hb1⟩
    have hk1 : Kp W0 w1 := Kp.of hb1
    have s1 : w.heap.size < w1.heap.size := Nat.lt_of_lt_of_le z0 hb1.size
    have s2 : vb < w1.heap.size := Nat.lt_of_lt_of_le q2 hb1.size
    clear hb1
    go_wp2_with fail
    go_ret
    first
      | exact ⟨by rw [hfin.out]; rfl, Kp.fin HB.out hk1⟩
  · skip
    have pv := numL_true p1
    obtain ⟨vn, hvn⟩ : ∃ vn : Nat, v = vn := ⟨v.toNat, by omega⟩
    subst hvn
    obtain ⟨vb, voff, rfl, hvb, y0⟩ := Hvr.out.at_ vn (by omega)
    have hvbl : vb < w.heap.size := hvb
    rw [← HKB.out.2 _ _ hvbl] at y0
    have hnv : strL (nmB vs vn) = vs[vn] := by unfold nmB; rw [Int.toNat_natCast, List.getElem?_eq_getElem (by omega), Option.getD_some]; exact strL_data _
    rw [← hnv] at y0
    have q0 : (0 : Int) ≤ (vn : Int) := by omega
    have q1 : (vn : Int) < vs.length := by omega
    have q2 : vb < W0.heap.size := by omega
    obtain ⟨t1, ht1⟩ : ∃ z, z = [117, 110, 108, 111, 99, 107, 32] ++ (nmB vs vn) := ⟨_, rfl⟩
    have lt1 : t1.length ≤ 20000000000 := by rw [ht1]; first | omega | (simp; done) | (simp; omega)
    have at1 := add_str (a := [117, 110, 108, 111, 99, 107, 32]) (b := nmB vs vn) (by first | omega | (simp; done) | (simp; omega)) ht1
    obtain ⟨t2, ht2⟩ : ∃ z, z = t1 ++ [59, 10] := ⟨_, rfl⟩
    have lt2 : t2.length ≤ 30000000000 := by rw [ht2]; first | omega | (simp; done) | (simp; omega)
    have at2 := add_str (a := t1) (b := [59, 10]) (by first | omega | (simp; done) | (simp; omega)) ht2
    have hfin : Hid (strL (stB vs (.mk 8 r vn a b t e) ++ [10]) = strL t2) := by
      show _ = _
      have e1 : stB vs (.mk 8 r vn a b t e) ++ [10] = t2 := by
        rw [stB_eq, ht2, ht1]
        show lnF vs 8 r vn a b (decide (e.length ≠ 0)) (blkB vs t) (blkB vs e) ++ [10] = _
        simp [lnF]
      rw [e1]
    clear ht1 lt1 ht2 lt2 hbt hbe hdg htb hnm p0 p1 p2 p3 hnv pv hvbl hvb
    generalize strL g1 = SG at *
    generalize strL (toB r) = SR at *
    generalize strL (digB r) = SD at *
    generalize strL (nmB vs vn) = SN at *
    generalize strL t1 = T0 at *
    generalize strL t2 = T1 at *
    simp only [strL] at ag1 ag2 at1 at2
    have hWx := hid hW
    clear hW
    go_enter Tryz.func103, Tryz.ntmps103
    go_wp2_with fail
    rw [hWx.out]
    refine (hDg.out W0).mono ?_
    rintro e' w1 ⟨rfl, hb1⟩
    have hk1 : Kp W0 w1 := Kp.of hb1
    have s1 : w.heap.size < w1.heap.size := Nat.lt_of_lt_of_le z0 hb1.size
    have s2 : vb < w1.heap.size := Nat.lt_of_lt_of_le q2 hb1.size
    clear hb1
    go_wp2_with fail
    go_ret
    first
      | exact ⟨by rw [hfin.out]; rfl, Kp.fin HB.out hk1⟩
  · skip
    have fa : a.fit dom 20 = true := p2
    have hal := Ex.txt_le fa
    have HA := hid (hTA.out fa)
    obtain ⟨t1, ht1⟩ : ∃ z, z = [97, 115, 115, 101, 114, 116, 32] ++ a.txt := ⟨_, rfl⟩
    have lt1 : t1.length ≤ 20000000000 := by rw [ht1]; first | omega | (simp; done) | (simp; omega)
    have at1 := add_str (a := [97, 115, 115, 101, 114, 116, 32]) (b := a.txt) (by first | omega | (simp; done) | (simp; omega)) ht1
    obtain ⟨t2, ht2⟩ : ∃ z, z = t1 ++ [59, 10] := ⟨_, rfl⟩
    have lt2 : t2.length ≤ 30000000000 := by rw [ht2]; first | omega | (simp; done) | (simp; omega)
    have at2 := add_str (a := t1) (b := [59, 10]) (by first | omega | (simp; done) | (simp; omega)) ht2
    have hfin : Hid (strL (stB vs (.mk 9 r v a b t e) ++ [10]) = strL t2) := by
      show _ = _
      have e1 : stB vs (.mk 9 r v a b t e) ++ [10] = t2 := by
        rw [stB_eq, ht2, ht1]
        show lnF vs 9 r v a b (decide (e.length ≠ 0)) (blkB vs t) (blkB vs e) ++ [10] = _
        simp [lnF]
      rw [e1]
    clear ht1 lt1 ht2 lt2 hbt hbe hdg htb hnm p0 p1 p2 p3 hal fa
    generalize strL g1 = SG at *
    generalize strL (toB r) = SR at *
    generalize strL (digB r) = SD at *
    generalize strL a.txt = SA at *
    generalize strL t1 = T0 at *
    generalize strL t2 = T1 at *
    simp only [strL] at ag1 ag2 at1 at2
    have hWx := hid hW
    clear hW
    go_enter Tryz.func103, Tryz.ntmps103
    go_wp2_with fail
    rw [hWx.out]
    refine (hDg.out W0).mono ?_
    rintro e' w1 ⟨rfl, hb1⟩
    have hk1 : Kp W0 w1 := Kp.of hb1
    have s1 : w.heap.size < w1.heap.size := Nat.lt_of_lt_of_le z0 hb1.size
    clear hb1
    go_wp2_with (first
      | (go_at_call 133
         with_reducible refine (HA.out _ hk1).mono ?_
         rintro e' w2 ⟨rfl, hb2⟩
         have hk2 : Kp W0 w2 := Kp.next (by assumption) hb2
         clear hb2)
      | fail)
    go_ret
    first
      | exact ⟨by rw [hfin.out]; rfl, Kp.fin HB.out hk2⟩
  · skip
    have fa : a.fit dom 20 = true := p2
    have hal := Ex.txt_le fa
    have HA := hid (hTA.out fa)
    obtain ⟨t1, ht1⟩ : ∃ z, z = [105, 102, 32] ++ a.txt := ⟨_, rfl⟩
    have lt1 : t1.length ≤ 20000000000 := by rw [ht1]; first | omega | (simp; done) | (simp; omega)
    have at1 := add_str (a := [105, 102, 32]) (b := a.txt) (by first | omega | (simp; done) | (simp; omega)) ht1
    obtain ⟨t2, ht2⟩ : ∃ z, z = t1 ++ [32] := ⟨_, rfl⟩
    have lt2 : t2.length ≤ 30000000000 := by rw [ht2]; first | omega | (simp; done) | (simp; omega)
    have at2 := add_str (a := t1) (b := [32]) (by first | omega | (simp; done) | (simp; omega)) ht2
    obtain ⟨t3, ht3⟩ : ∃ z, z = t2 ++ (blkB vs t) := ⟨_, rfl⟩
    have lt3 : t3.length ≤ 40000000000 := by rw [ht3]; first | omega | (simp; done) | (simp; omega)
    have at3 := add_str (a := t2) (b := blkB vs t) (by first | omega | (simp; done) | (simp; omega)) ht3
    by_cases he0 : e.length = 0
    · skip
      obtain rfl : e = [] := List.eq_nil_of_length_eq_zero he0
      simp only [List.length_nil] at c12 hW
      obtain ⟨x1, hx1⟩ : ∃ z, z = t3 ++ [10] := ⟨_, rfl⟩
      have lx1 : x1.length ≤ 60000000000 := by rw [hx1]; first | omega | (simp; done) | (simp; omega)
      have ax1 := add_str (a := t3) (b := [10]) (by first | omega | (simp; done) | (simp; omega)) hx1
      have hfin : Hid (strL (stB vs (.mk 10 r v a b t []) ++ [10]) = strL x1) := by
        show _ = _
        have e1 : stB vs (.mk 10 r v a b t []) ++ [10] = x1 := by
          rw [stB_eq, hx1, ht3, ht2, ht1]
          show lnF vs 10 r v a b (decide (([] : List St).length ≠ 0)) (blkB vs t) (blkB vs []) ++ [10] = _
          rw [decide_eq_false (by simp)]
          simp [lnF]
        rw [e1]
      clear ht1 lt1 ht2 lt2 ht3 lt3 hx1 lx1 hbt hbe hdg htb hnm p0 p1 p2 p3 hal fa he0
      generalize strL g1 = SG at *
      generalize strL (toB r) = SR at *
      generalize strL (digB r) = SD at *
      generalize strL a.txt = SA at *
      generalize strL (blkB vs t) = ST at *
      generalize strL t1 = T0 at *
      generalize strL t2 = T1 at *
      generalize strL t3 = T2 at *
      generalize strL x1 = T3 at *
      simp only [strL] at ag1 ag2 at1 at2 ax1
      have hWx := hid hW
      clear hW
      go_enter Tryz.func103, Tryz.ntmps103
      go_wp2_with fail
      rw [hWx.out]
      refine (hDg.out W0).mono ?_
      rintro e' w1 ⟨rfl, hb1⟩
      have hk1 : Kp W0 w1 := Kp.of hb1
      have s1 : w.heap.size < w1.heap.size := Nat.lt_of_lt_of_le z0 hb1.size
      clear hb1
      go_wp2_with fail
      go_region_held3 (Kp W0)
        (first | exact Kp.drew hk1 | assumption)
        (first
          | (go_at_call 133
             with_reducible refine (HA.out _ ?_).mono ?_
             (focus assumption)
             rintro e' w2 ⟨rfl, hb2⟩
             have hk2 : Kp W0 w2 := Kp.next (by assumption) hb2
             have s2 : w.heap.size < w2.heap.size := Nat.lt_of_lt_of_le z0 hk2.1.size
             clear hb2)
          | (go_at_call 64
             with_reducible refine (hBT.out _ ?_).mono ?_
             (focus assumption)
             rintro e' w4 ⟨rfl, hb4⟩
             have hk4 : Kp W0 w4 := Kp.next (by assumption) hb4
             have s4 : w.heap.size < w4.heap.size := Nat.lt_of_lt_of_le z0 hk4.1.size
             clear hb4)
          | fail)
      all_goals
        go_wp2_with fail
        go_ret
        first
          | exact ⟨by rw [hfin.out]; rfl, Kp.fin HB.out hk2⟩
          | exact ⟨by rw [hfin.out]; rfl, Kp.fin HB.out hk4⟩
    · skip
      have dE : decide (0 < e.length) = true := decide_eq_true (by omega)
      obtain ⟨x1, hx1⟩ : ∃ z, z = t3 ++ [32, 101, 108, 115, 101, 32] := ⟨_, rfl⟩
      have lx1 : x1.length ≤ 60000000000 := by rw [hx1]; first | omega | (simp; done) | (simp; omega)
      have ax1 := add_str (a := t3) (b := [32, 101, 108, 115, 101, 32]) (by first | omega | (simp; done) | (simp; omega)) hx1
      obtain ⟨x2, hx2⟩ : ∃ z, z = x1 ++ (blkB vs e) := ⟨_, rfl⟩
      have lx2 : x2.length ≤ 70000000000 := by rw [hx2]; first | omega | (simp; done) | (simp; omega)
      have ax2 := add_str (a := x1) (b := blkB vs e) (by first | omega | (simp; done) | (simp; omega)) hx2
      obtain ⟨x3, hx3⟩ : ∃ z, z = x2 ++ [10] := ⟨_, rfl⟩
      have lx3 : x3.length ≤ 80000000000 := by rw [hx3]; first | omega | (simp; done) | (simp; omega)
      have ax3 := add_str (a := x2) (b := [10]) (by first | omega | (simp; done) | (simp; omega)) hx3
      have hfin : Hid (strL (stB vs (.mk 10 r v a b t e) ++ [10]) = strL x3) := by
        show _ = _
        have e1 : stB vs (.mk 10 r v a b t e) ++ [10] = x3 := by
          rw [stB_eq, hx3, hx2, hx1, ht3, ht2, ht1]
          show lnF vs 10 r v a b (decide (e.length ≠ 0)) (blkB vs t) (blkB vs e) ++ [10] = _
          rw [decide_eq_true he0]
          simp [lnF]
        rw [e1]
      clear ht1 lt1 ht2 lt2 ht3 lt3 hx1 lx1 hx2 lx2 hx3 lx3 hbt hbe hdg htb hnm p0 p1 p2 p3 hal fa he0
      generalize strL g1 = SG at *
      generalize strL (toB r) = SR at *
      generalize strL (digB r) = SD at *
      generalize strL a.txt = SA at *
      generalize strL (blkB vs t) = ST at *
      generalize strL (blkB vs e) = SE at *
      generalize strL t1 = T0 at *
      generalize strL t2 = T1 at *
      generalize strL t3 = T2 at *
      generalize strL x1 = T3 at *
      generalize strL x2 = T4 at *
      generalize strL x3 = T5 at *
      simp only [strL] at ag1 ag2 at1 at2 ax1 ax3
      have hWx := hid hW
      clear hW
      go_enter Tryz.func103, Tryz.ntmps103
      go_wp2_with fail
      rw [hWx.out]
      refine (hDg.out W0).mono ?_
      rintro e' w1 ⟨rfl, hb1⟩
      have hk1 : Kp W0 w1 := Kp.of hb1
      have s1 : w.heap.size < w1.heap.size := Nat.lt_of_lt_of_le z0 hb1.size
      clear hb1
      go_wp2_with fail
      go_region_held3 (Kp W0)
        (first | exact Kp.drew hk1 | assumption)
        (first
          | (go_at_call 133
             with_reducible refine (HA.out _ ?_).mono ?_
             (focus assumption)
             rintro e' w2 ⟨rfl, hb2⟩
             have hk2 : Kp W0 w2 := Kp.next (by assumption) hb2
             have s2 : w.heap.size < w2.heap.size := Nat.lt_of_lt_of_le z0 hk2.1.size
             clear hb2)
          | (go_at_call 64
             with_reducible refine (hBT.out _ ?_).mono ?_
             (focus assumption)
             rintro e' w4 ⟨rfl, hb4⟩
             have hk4 : Kp W0 w4 := Kp.next (by assumption) hb4
             have s4 : w.heap.size < w4.heap.size := Nat.lt_of_lt_of_le z0 hk4.1.size
             clear hb4)
          | fail)
      all_goals
        go_wp2_with (first
          | (go_at_call 64
             first | with_reducible refine (hBE.out _ hk4).mono ?_ | with_reducible refine (hBE.out _ hk2).mono ?_
             rintro e' w5 ⟨rfl, hb5⟩
             have hk5 : Kp W0 w5 := Kp.next (by assumption) hb5
             clear hb5)
          | fail)
        go_ret
        first
          | exact ⟨by rw [hfin.out]; rfl, Kp.fin HB.out hk5⟩
  · skip
    have fa : a.fit dom 20 = true := p2
    have hal := Ex.txt_le fa
    have HA := hid (hTA.out fa)
    obtain ⟨t1, ht1⟩ : ∃ z, z = [119, 104, 105, 108, 101, 32] ++ a.txt := ⟨_, rfl⟩
    have lt1 : t1.length ≤ 20000000000 := by rw [ht1]; first | omega | (simp; done) | (simp; omega)
    have at1 := add_str (a := [119, 104, 105, 108, 101, 32]) (b := a.txt) (by first | omega | (simp; done) | (simp; omega)) ht1
    obtain ⟨t2, ht2⟩ : ∃ z, z = t1 ++ [32] := ⟨_, rfl⟩
    have lt2 : t2.length ≤ 30000000000 := by rw [ht2]; first | omega | (simp; done) | (simp; omega)
    have at2 := add_str (a := t1) (b := [32]) (by first | omega | (simp; done) | (simp; omega)) ht2
    obtain ⟨t3, ht3⟩ : ∃ z, z = t2 ++ (blkB vs t) := ⟨_, rfl⟩
    have lt3 : t3.length ≤ 40000000000 := by rw [ht3]; first | omega | (simp; done) | (simp; omega)
    have at3 := add_str (a := t2) (b := blkB vs t) (by first | omega | (simp; done) | (simp; omega)) ht3
    obtain ⟨t4, ht4⟩ : ∃ z, z = t3 ++ [10] := ⟨_, rfl⟩
    have lt4 : t4.length ≤ 50000000000 := by rw [ht4]; first | omega | (simp; done) | (simp; omega)
    have at4 := add_str (a := t3) (b := [10]) (by first | omega | (simp; done) | (simp; omega)) ht4
    have hfin : Hid (strL (stB vs (.mk 11 r v a b t e) ++ [10]) = strL t4) := by
      show _ = _
      have e1 : stB vs (.mk 11 r v a b t e) ++ [10] = t4 := by
        rw [stB_eq, ht4, ht3, ht2, ht1]
        show lnF vs 11 r v a b (decide (e.length ≠ 0)) (blkB vs t) (blkB vs e) ++ [10] = _
        simp [lnF]
      rw [e1]
    clear ht1 lt1 ht2 lt2 ht3 lt3 ht4 lt4 hbt hbe hdg htb hnm p0 p1 p2 p3 hal fa
    generalize strL g1 = SG at *
    generalize strL (toB r) = SR at *
    generalize strL (digB r) = SD at *
    generalize strL a.txt = SA at *
    generalize strL (blkB vs t) = ST at *
    generalize strL t1 = T0 at *
    generalize strL t2 = T1 at *
    generalize strL t3 = T2 at *
    generalize strL t4 = T3 at *
    simp only [strL] at ag1 ag2 at1 at2 at4
    have hWx := hid hW
    clear hW
    go_enter Tryz.func103, Tryz.ntmps103
    go_wp2_with fail
    rw [hWx.out]
    refine (hDg.out W0).mono ?_
    rintro e' w1 ⟨rfl, hb1⟩
    have hk1 : Kp W0 w1 := Kp.of hb1
    have s1 : w.heap.size < w1.heap.size := Nat.lt_of_lt_of_le z0 hb1.size
    clear hb1
    go_wp2_with fail
    go_region_held3 (Kp W0)
      (first | exact Kp.drew hk1 | assumption)
      (first
        | (go_at_call 133
           with_reducible refine (HA.out _ ?_).mono ?_
           (focus assumption)
           rintro e' w2 ⟨rfl, hb2⟩
           have hk2 : Kp W0 w2 := Kp.next (by assumption) hb2
           clear hb2)
        | (go_at_call 64
           with_reducible refine (hBT.out _ ?_).mono ?_
           (focus assumption)
           rintro e' w4 ⟨rfl, hb4⟩
           have hk4 : Kp W0 w4 := Kp.next (by assumption) hb4
           clear hb4)
        | fail)
    all_goals
      go_wp2_with fail
      go_ret
      first
        | exact ⟨by rw [hfin.out]; rfl, Kp.fin HB.out hk2⟩
        | exact ⟨by rw [hfin.out]; rfl, Kp.fin HB.out hk4⟩
end Go.Proofs.YtphlbbnmligadaaGreatDoor
