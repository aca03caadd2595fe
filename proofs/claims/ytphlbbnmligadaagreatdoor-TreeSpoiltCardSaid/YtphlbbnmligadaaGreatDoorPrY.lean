/- The program's writers at every depth; its block. -/
import Derived.Test.YtphlbbnmligadaaGreatDoorPrX
import Derived.Test.YtphlbbnmligadaaGreatDoorTreE
import Derived.Test.YtphlbbnmligadaaGreatDoorBunM
namespace Go.Proofs.YtphlbbnmligadaaGreatDoor
open Go.RowKit

theorem Ex.fit_mono {dom dom' : Int} (h : dom ≤ dom') : ∀ (d : Nat) (x : Ex), x.fit dom d = true → x.fit dom' d = true
  | 0, x, hx => by unfold Ex.fit at hx; cases hx
  | d + 1, .mk k n o l, hx => by
    rcases Ex.fit_open hx with ⟨rfl, n0, n1, rfl, rfl⟩ | ⟨rfl, n0, n1, rfl, rfl⟩ | ⟨rfl, rfl, ho, x, y, rfl, h1, h2⟩
    · unfold Ex.fit
      have e1 : decide (0 ≤ n) = true := decide_eq_true n0
      have e2 : decide (n < dom') = true := decide_eq_true (by omega)
      simp [e1, e2]
    · unfold Ex.fit
      have e1 : decide (0 ≤ n) = true := decide_eq_true n0
      have e2 : decide (n < 4) = true := decide_eq_true n1
      simp [e1, e2]
    · unfold Ex.fit
      have e1 := Ex.fit_mono h d x h1
      have e2 := Ex.fit_mono h d y h2
      simp [ho, e1, e2]
theorem Wk.map {B wb mb : Nat} {w w' : World} {l : List (Int × Value)} (k : Wk B wb w w') (h : MapIs w mb l) (hne : mb ≠ wb) : MapIs w' mb l := by
  obtain ⟨es, clock, h1, h2⟩ := h
  exact ⟨es, clock, k.ok mb _ h1 (by simpa using hne) (fun c fz e => by cases e), h2⟩
theorem forms_fn (k : Int) (h1 : 1 ≤ k) (h2 : k ≤ 11) : ∃ b0 b1 b2 b3 b4 b5 : Bool, mget formZ k formsL = .agg #[.bool b0, .bool b1, .bool b2, .bool b3, .bool b4, .bool b5, .func (.func (fnK k)) #[] #[]] := by
  have hk : k = 1 ∨ k = 2 ∨ k = 3 ∨ k = 4 ∨ k = 5 ∨ k = 6 ∨ k = 7 ∨ k = 8 ∨ k = 9 ∨ k = 10 ∨ k = 11 := by omega
  rcases hk with rfl | rfl | rfl | rfl | rfl | rfl | rfl | rfl | rfl | rfl | rfl <;> exact ⟨_, _, _, _, _, _, rfl⟩

set_option maxRecDepth 100000 in
set_option maxHeartbeats 16000000 in
theorem wblock_step (vs : List ByteArray) (_hv : vs.all nameB = true) (dom : Int) (n : Nat) (ih : WStC vs dom n) : WBlC vs dom n := by
  intro l hok hcnt B wb L va cv a cap w hw hBw hvr hin hlen
  have hle := hin.le
  have hmx := hin.mx
  unfold maxLen at hmx
  have Hin := hid hin
  have Hvr := hid hvr
  have Hok := hid hok
  have Hw := hid hw
  have hwl := hw.lt
  have hput : Hid (∀ (c : UInt8) W L', Wt W B wb L' (.slice va vs.length cv) → B ≤ W.heap.size → L'.length ≤ 99000000000 → Calls Tryz.prog 25 #[.pointer (some ⟨wb, 0, none⟩), .slice (some ⟨W.heap.size, 0, none⟩) 1 1] (W.alloc (.cells #[.string ⟨#[c]⟩] 9)) fun e w' => e = .returned (.tuple #[]) ∧ Wt w' B wb (L' ++ [c]) (.slice va vs.length cv) ∧ Wk B wb W w') := fun c W L' h1 h2 h3 => put_lit W _ 1 [⟨#[c]⟩] h1 h2 rfl rfl (by decide) (by show L'.length + 1 ≤ _; omega)
  have hput2 : Hid (∀ W L', Wt W B wb L' (.slice va vs.length cv) → B ≤ W.heap.size → L'.length ≤ 99000000000 → Calls Tryz.prog 25 #[.pointer (some ⟨wb, 0, none⟩), .slice (some ⟨W.heap.size, 0, none⟩) 1 1] (W.alloc (.cells #[.string ⟨#[123, 10]⟩] 9)) fun e w' => e = .returned (.tuple #[]) ∧ Wt w' B wb (L' ++ [123, 10]) (.slice va vs.length cv) ∧ Wk B wb W w') := fun W L' h1 h2 h3 => put_lit W _ 1 [⟨#[123, 10]⟩] h1 h2 rfl rfl (by decide) (by show L'.length + 2 ≤ _; omega)
  have hbl : (blkB vs l).length = 3 + (lnsB vs l).length := by unfold blkB; simp only [List.length_append, List.length_cons, List.length_nil]; omega
  have hL : L.length ≤ 90000000000 := by omega
  have Hlen := hid hlen
  clear hin hvr hok hw hlen
  go_enter Tryz.func28, Tryz.ntmps28
  go_wp2_with fail
  refine (forms_any w).mono ?_
  rintro e w1 ⟨mb, rfl, hmb, hM, hb1⟩
  have hne : mb ≠ wb := by omega
  have hw1 := hid (Hw.out.below hb1)
  have HK1 : Hid (Wk B wb w w1) := Wk.of_below hb1 hBw
  have hB1 : B ≤ w1.heap.size := Nat.le_trans hBw hb1.size
  have HM1 := hid hM
  clear hb1 hM Hw
  go_wp2_with fail
  refine (hput2.out w1 L hw1.out hB1 (by omega)).mono ?_
  rintro e w2 ⟨rfl, hw2, hk2⟩
  have HW2 := hid hw2
  have HK2 := hid (HK1.out.trans hk2)
  have HM2 := hid (hk2.map HM1.out hne)
  clear hw2 hk2 HM1 HK1 hw1 hput2
  go_wp2_with fail
  go_loopw [13] (fun i wr => ∃ q : Nat, q ≤ l.length ∧ i = .int .i64 q ∧ Hid (Wt wr B wb (L ++ ([123, 10] ++ lnsB vs (l.take q))) (.slice va vs.length cv)) ∧ Hid (Wk B wb w wr) ∧ Hid (MapIs wr mb formsL)) (fun i _ => l.length - (intOf i).toNat)
  case atStart => exact ⟨0, Nat.zero_le _, rfl, by show Wt _ _ _ _ _; simpa [lnsB] using HW2.out, HK2, HM2⟩
  case round =>
    clear HW2 HK2 HM2
    obtain ⟨q, hq, rfl, hW, hK, hM⟩ := hrel
    have g0 := hK.out.bl.size
    have g4 := hW.out.lt
    by_cases hlt : q < l.length
    · have q0 : (0 : Int) ≤ q := by omega
      have q1 : (q : Int) < l.length := by omega
      have hkp : ∀ b o, LtB B b → wr.cell? ⟨b, o, none⟩ = w.cell? ⟨b, o, none⟩ := fun b o hb => hK.out.bl.cell (p := ⟨b, o, none⟩) hb
      obtain ⟨b, off, u0, u1, u2, u3, v0, v1, v2, v3, ta, ea, tc, ec, rfl, hb, ⟨e0, e1, e2⟩, ⟨e3, e4, e5, e6⟩, ⟨e7, e8, e9, e10⟩, ⟨e11, e12⟩, ⟨hxa, hxb, -, -⟩, hst⟩ := (Hin.out.keep hkp).at_ q hlt
      have hb' : b < B := hb
      have g3 : b < wr.heap.size := by omega
      obtain ⟨oa0, oa1, oa2, oa3⟩ := hxa.ones
      obtain ⟨ob0, ob1, ob2, ob3⟩ := hxb.ones
      have st0 := fun ad W m => run_store (P := Tryz.prog) W ad u0 m oa0
      have st1 := fun ad W m => run_store (P := Tryz.prog) W ad u1 m oa1
      have st2 := fun ad W m => run_store (P := Tryz.prog) W ad u2 m oa2
      have st3 := fun ad W m => run_store (P := Tryz.prog) W ad u3 m oa3
      have st4 := fun ad W m => run_store (P := Tryz.prog) W ad v0 m ob0
      have st5 := fun ad W m => run_store (P := Tryz.prog) W ad v1 m ob1
      have st6 := fun ad W m => run_store (P := Tryz.prog) W ad v2 m ob2
      have st7 := fun ad W m => run_store (P := Tryz.prog) W ad v3 m ob3
      have hokx : okS vs.length dom n l[q] = true := by
        have h := Hok.out
        unfold okL at h
        exact List.all_eq_true.1 h _ (List.getElem_mem hlt)
      have hcx : cntS l[q] ≤ 200 := by
        have h1 := cntL_take l q hlt
        have h2 := cntL_le l (q + 1)
        omega
      have hkk : 1 ≤ l[q].kind ∧ l[q].kind ≤ 11 := by
        have h := hokx
        rcases n with _ | n
        · simp [okS] at h
        · rw [okS_succ] at h
          unfold okF at h
          simp only [Bool.and_eq_true, decide_eq_true_eq] at h
          omega
      have hll : (lnsB vs (l.take (q + 1))).length ≤ (lnsB vs l).length := by
        have e : lnsB vs l = l.foldl (fun acc x => acc ++ (stB vs x ++ [10])) [] := rfl
        have h : ∀ (r : List St) (acc : List UInt8), acc.length ≤ (r.foldl (fun acc x => acc ++ (stB vs x ++ [10])) acc).length := by
          intro r
          induction r with
          | nil => intro acc; exact Nat.le_refl _
          | cons y r ih => intro acc; exact Nat.le_trans (by simp) (ih _)
        have h2 := h (l.drop (q + 1)) (lnsB vs (l.take (q + 1)))
        have h3 : lnsB vs l = (l.drop (q + 1)).foldl (fun acc x => acc ++ (stB vs x ++ [10])) (lnsB vs (l.take (q + 1))) := by
          unfold lnsB
          rw [← List.foldl_append, List.take_append_drop]
        rw [h3]
        exact h2
      have e13 := lnsB_take vs l q hlt
      have hl1 : (L ++ ([123, 10] ++ lnsB vs (l.take q))).length + (stB vs l[q]).length ≤ 90000000000 := by
        have := Hlen.out
        rw [e13] at hll
        simp only [List.length_append, List.length_cons, List.length_nil] at hll ⊢
        omega
      have hl2 : Hid ((L ++ ([123, 10] ++ lnsB vs (l.take q)) ++ stB vs l[q]).length ≤ 99000000000) := by show _ ≤ _; rw [List.length_append]; omega
      have hfin : Hid (L ++ ([123, 10] ++ lnsB vs (l.take q)) ++ stB vs l[q] ++ [10] = L ++ ([123, 10] ++ lnsB vs (l.take (q + 1)))) := by
        show _ = _
        rw [e13]
        simp only [List.append_assoc]
      have hcall : Hid (∀ W, Wt W B wb (L ++ ([123, 10] ++ lnsB vs (l.take q))) (.slice va vs.length cv) → B ≤ W.heap.size → VrIn W (LtB B) va vs.length cv vs → StIn W (LtB B) [.int .i64 l[q].kind, .int .i64 l[q].reg, .int .i64 l[q].var, u0, u1, u2, u3, v0, v1, v2, v3, .slice ta l[q].t.length tc, .slice ea l[q].e.length ec] l[q] → Calls Tryz.prog (fnK l[q].kind) #[.pointer (some ⟨wb, 0, none⟩), .agg #[.int .i64 l[q].kind, .int .i64 l[q].reg, .int .i64 l[q].var, u0, u1, u2, u3, v0, v1, v2, v3, .slice ta l[q].t.length tc, .slice ea l[q].e.length ec]] W (PutPost B wb (L ++ ([123, 10] ++ lnsB vs (l.take q)) ++ stB vs l[q]) (.slice va vs.length cv) W)) := fun W h1 h2 h3 h4 => ih l[q] hokx hcx B wb _ va cv [.int .i64 l[q].kind, .int .i64 l[q].reg, .int .i64 l[q].var, u0, u1, u2, u3, v0, v1, v2, v3, .slice ta l[q].t.length tc, .slice ea l[q].e.length ec] W h1 h2 h3 h4 hl1
      obtain ⟨f0, f1, f2, f3, f4, f5, hget⟩ := forms_fn l[q].kind hkk.1 hkk.2
      have Hst := hid hst
      generalize hV : wr.alloc (.cells #[.int .i64 l[q].kind, .int .i64 l[q].reg, .int .i64 l[q].var, u0, u1, u2, u3, v0, v1, v2, v3, .slice ta l[q].t.length tc, .slice ea l[q].e.length ec] 56) = V
      have hBV : Below wr.heap.size wr V := by subst hV; exact (Below.refl _ _).alloc (Nat.le_refl _) _
      have zV : wr.heap.size < V.heap.size := by subst hV; simp
      have x0 : V.cell? ⟨wr.heap.size, 0, none⟩ = some (.int .i64 l[q].kind) := by subst hV; go_simp
      have x1 : V.cell? ⟨wr.heap.size, 1, none⟩ = some (.int .i64 l[q].reg) := by subst hV; go_simp
      have x2 : V.cell? ⟨wr.heap.size, 2, none⟩ = some (.int .i64 l[q].var) := by subst hV; go_simp
      have x3 : V.cell? ⟨wr.heap.size, 3, none⟩ = some u0 := by subst hV; go_simp
      have x4 : V.cell? ⟨wr.heap.size, 4, none⟩ = some u1 := by subst hV; go_simp
      have x5 : V.cell? ⟨wr.heap.size, 5, none⟩ = some u2 := by subst hV; go_simp
      have x6 : V.cell? ⟨wr.heap.size, 6, none⟩ = some u3 := by subst hV; go_simp
      have x7 : V.cell? ⟨wr.heap.size, 7, none⟩ = some v0 := by subst hV; go_simp
      have x8 : V.cell? ⟨wr.heap.size, 8, none⟩ = some v1 := by subst hV; go_simp
      have x9 : V.cell? ⟨wr.heap.size, 9, none⟩ = some v2 := by subst hV; go_simp
      have x10 : V.cell? ⟨wr.heap.size, 10, none⟩ = some v3 := by subst hV; go_simp
      have x11 : V.cell? ⟨wr.heap.size, 11, none⟩ = some (.slice ta l[q].t.length tc) := by subst hV; go_simp
      have x12 : V.cell? ⟨wr.heap.size, 12, none⟩ = some (.slice ea l[q].e.length ec) := by subst hV; go_simp
      have hWV := hW.out.below hBV
      have hKV : Wk B wb w V := hK.out.trans (Wk.of_below hBV (by omega))
      have hMV : MapIs V mb formsL := hM.out.keep hBV
      have hcV := hid (hcall.out V hWV (by omega) (Hvr.out.keep fun b o hb => hKV.bl.cell (p := ⟨b, o, none⟩) hb) (Hst.out.keep fun b o hb => hBV.cell (p := ⟨b, o, none⟩) (by have h' : b < B := hb; show b < _; omega)))
      have HKV := hid hKV
      have HMV := hid hMV
      have hVx := hid hV
      clear hV hBV hWV hKV hMV hcall Hst hst hokx hcx hll e13 hl1 hxa hxb hW hM hkp hb
      generalize stB vs l[q] = SX at *
      generalize l[q].kind = K at *
      generalize l[q].reg = R at *
      generalize l[q].var = VV at *
      generalize l[q].t.length = tl at *
      generalize l[q].e.length = el at *
      have hk : K = 1 ∨ K = 2 ∨ K = 3 ∨ K = 4 ∨ K = 5 ∨ K = 6 ∨ K = 7 ∨ K = 8 ∨ K = 9 ∨ K = 10 ∨ K = 11 := by omega
      clear hkk
      rcases hk with rfl | rfl | rfl | rfl | rfl | rfl | rfl | rfl | rfl | rfl | rfl
      · have Hget : Hid (mget formZ 1 formsL = .agg #[.bool f0, .bool f1, .bool f2, .bool f3, .bool f4, .bool f5, .func (.func 77) #[] #[]]) := hget
        have hc2 : Hid (Calls Tryz.prog 77 #[.pointer (some ⟨wb, 0, none⟩), .agg #[.int .i64 1, .int .i64 R, .int .i64 VV, u0, u1, u2, u3, v0, v1, v2, v3, .slice ta tl tc, .slice ea el ec]] V (PutPost B wb (L ++ ([123, 10] ++ lnsB vs (l.take q)) ++ SX) (.slice va vs.length cv) V)) := hcV
        have hfld : ∀ W, (Instr.field 105 (.agg #[.bool f0, .bool f1, .bool f2, .bool f3, .bool f4, .bool f5, .func (.func 77) #[] #[]]) 6).run Tryz.prog W = .ok (.func (.func 77) #[] #[]) W := fun W => rfl
        clear hget hcV
        go_upto_region 5 with fail
        rw [hVx.out]
        clear e0 e1 e2 e3 e4 e5 e6 e7 e8 e9 e10 e11 e12 hVx
        go_wp2_with (first
          | (refine wpList_look_of _ rfl _ _ 90 3 105 rfl Tryz.underlying90 Tryz.underlying3 _ (zeroForm _) _ _ rfl HMV.out _ (by rfl) _ Hget.out ?_)
          | (go_at_call 77
             with_reducible refine hc2.out.mono ?_
             rintro e w3 ⟨rfl, hw3, hk3⟩
             have HW3 := hid hw3
             have HK3 := hid (HKV.out.trans hk3)
             have HM3 := hid (hk3.map HMV.out hne)
             clear hw3 hk3)
          | (go_at_call 25
             with_reducible refine (hput.out 10 _ _ HW3.out (Nat.le_trans hBw HK3.out.bl.size) hl2.out).mono ?_
             rintro e w4 ⟨rfl, hw4, hk4⟩
             have HW4 := hid hw4
             have HK4 := hid (HK3.out.trans hk4)
             have HM4 := hid (hk4.map HM3.out hne)
             clear hw4 hk4)
          | fail)
        go_roundw
        case rel => exact ⟨q + 1, by omega, by simp, by show Wt _ _ _ _ _; rw [← hfin.out]; exact HW4.out, HK4, HM4⟩
        case measure => simp [intOf]; omega
      · have Hget : Hid (mget formZ 2 formsL = .agg #[.bool f0, .bool f1, .bool f2, .bool f3, .bool f4, .bool f5, .func (.func 78) #[] #[]]) := hget
        have hc2 : Hid (Calls Tryz.prog 78 #[.pointer (some ⟨wb, 0, none⟩), .agg #[.int .i64 2, .int .i64 R, .int .i64 VV, u0, u1, u2, u3, v0, v1, v2, v3, .slice ta tl tc, .slice ea el ec]] V (PutPost B wb (L ++ ([123, 10] ++ lnsB vs (l.take q)) ++ SX) (.slice va vs.length cv) V)) := hcV
        have hfld : ∀ W, (Instr.field 105 (.agg #[.bool f0, .bool f1, .bool f2, .bool f3, .bool f4, .bool f5, .func (.func 78) #[] #[]]) 6).run Tryz.prog W = .ok (.func (.func 78) #[] #[]) W := fun W => rfl
        clear hget hcV
        go_upto_region 5 with fail
        rw [hVx.out]
        clear e0 e1 e2 e3 e4 e5 e6 e7 e8 e9 e10 e11 e12 hVx
        go_wp2_with (first
          | (refine wpList_look_of _ rfl _ _ 90 3 105 rfl Tryz.underlying90 Tryz.underlying3 _ (zeroForm _) _ _ rfl HMV.out _ (by rfl) _ Hget.out ?_)
          | (go_at_call 78
             with_reducible refine hc2.out.mono ?_
             rintro e w3 ⟨rfl, hw3, hk3⟩
             have HW3 := hid hw3
             have HK3 := hid (HKV.out.trans hk3)
             have HM3 := hid (hk3.map HMV.out hne)
             clear hw3 hk3)
          | (go_at_call 25
             with_reducible refine (hput.out 10 _ _ HW3.out (Nat.le_trans hBw HK3.out.bl.size) hl2.out).mono ?_
             rintro e w4 ⟨rfl, hw4, hk4⟩
             have HW4 := hid hw4
             have HK4 := hid (HK3.out.trans hk4)
             have HM4 := hid (hk4.map HM3.out hne)
             clear hw4 hk4)
          | fail)
        go_roundw
        case rel => exact ⟨q + 1, by omega, by simp, by show Wt _ _ _ _ _; rw [← hfin.out]; exact HW4.out, HK4, HM4⟩
        case measure => simp [intOf]; omega
      · have Hget : Hid (mget formZ 3 formsL = .agg #[.bool f0, .bool f1, .bool f2, .bool f3, .bool f4, .bool f5, .func (.func 79) #[] #[]]) := hget
        have hc2 : Hid (Calls Tryz.prog 79 #[.pointer (some ⟨wb, 0, none⟩), .agg #[.int .i64 3, .int .i64 R, .int .i64 VV, u0, u1, u2, u3, v0, v1, v2, v3, .slice ta tl tc, .slice ea el ec]] V (PutPost B wb (L ++ ([123, 10] ++ lnsB vs (l.take q)) ++ SX) (.slice va vs.length cv) V)) := hcV
        have hfld : ∀ W, (Instr.field 105 (.agg #[.bool f0, .bool f1, .bool f2, .bool f3, .bool f4, .bool f5, .func (.func 79) #[] #[]]) 6).run Tryz.prog W = .ok (.func (.func 79) #[] #[]) W := fun W => rfl
        clear hget hcV
        go_upto_region 5 with fail
        rw [hVx.out]
        clear e0 e1 e2 e3 e4 e5 e6 e7 e8 e9 e10 e11 e12 hVx
        go_wp2_with (first
          | (refine wpList_look_of _ rfl _ _ 90 3 105 rfl Tryz.underlying90 Tryz.underlying3 _ (zeroForm _) _ _ rfl HMV.out _ (by rfl) _ Hget.out ?_)
          | (go_at_call 79
             with_reducible refine hc2.out.mono ?_
             rintro e w3 ⟨rfl, hw3, hk3⟩
             have HW3 := hid hw3
             have HK3 := hid (HKV.out.trans hk3)
             have HM3 := hid (hk3.map HMV.out hne)
             clear hw3 hk3)
          | (go_at_call 25
             with_reducible refine (hput.out 10 _ _ HW3.out (Nat.le_trans hBw HK3.out.bl.size) hl2.out).mono ?_
             rintro e w4 ⟨rfl, hw4, hk4⟩
             have HW4 := hid hw4
             have HK4 := hid (HK3.out.trans hk4)
             have HM4 := hid (hk4.map HM3.out hne)
             clear hw4 hk4)
          | fail)
        go_roundw
        case rel => exact ⟨q + 1, by omega, by simp, by show Wt _ _ _ _ _; rw [← hfin.out]; exact HW4.out, HK4, HM4⟩
        case measure => simp [intOf]; omega
      · have Hget : Hid (mget formZ 4 formsL = .agg #[.bool f0, .bool f1, .bool f2, .bool f3, .bool f4, .bool f5, .func (.func 80) #[] #[]]) := hget
        have hc2 : Hid (Calls Tryz.prog 80 #[.pointer (some ⟨wb, 0, none⟩), .agg #[.int .i64 4, .int .i64 R, .int .i64 VV, u0, u1, u2, u3, v0, v1, v2, v3, .slice ta tl tc, .slice ea el ec]] V (PutPost B wb (L ++ ([123, 10] ++ lnsB vs (l.take q)) ++ SX) (.slice va vs.length cv) V)) := hcV
        have hfld : ∀ W, (Instr.field 105 (.agg #[.bool f0, .bool f1, .bool f2, .bool f3, .bool f4, .bool f5, .func (.func 80) #[] #[]]) 6).run Tryz.prog W = .ok (.func (.func 80) #[] #[]) W := fun W => rfl
        clear hget hcV
        go_upto_region 5 with fail
        rw [hVx.out]
        clear e0 e1 e2 e3 e4 e5 e6 e7 e8 e9 e10 e11 e12 hVx
        go_wp2_with (first
          | (refine wpList_look_of _ rfl _ _ 90 3 105 rfl Tryz.underlying90 Tryz.underlying3 _ (zeroForm _) _ _ rfl HMV.out _ (by rfl) _ Hget.out ?_)
          | (go_at_call 80
             with_reducible refine hc2.out.mono ?_
             rintro e w3 ⟨rfl, hw3, hk3⟩
             have HW3 := hid hw3
             have HK3 := hid (HKV.out.trans hk3)
             have HM3 := hid (hk3.map HMV.out hne)
             clear hw3 hk3)
          | (go_at_call 25
             with_reducible refine (hput.out 10 _ _ HW3.out (Nat.le_trans hBw HK3.out.bl.size) hl2.out).mono ?_
             rintro e w4 ⟨rfl, hw4, hk4⟩
             have HW4 := hid hw4
             have HK4 := hid (HK3.out.trans hk4)
             have HM4 := hid (hk4.map HM3.out hne)
             clear hw4 hk4)
          | fail)
        go_roundw
        case rel => exact ⟨q + 1, by omega, by simp, by show Wt _ _ _ _ _; rw [← hfin.out]; exact HW4.out, HK4, HM4⟩
        case measure => simp [intOf]; omega
      · have Hget : Hid (mget formZ 5 formsL = .agg #[.bool f0, .bool f1, .bool f2, .bool f3, .bool f4, .bool f5, .func (.func 81) #[] #[]]) := hget
        have hc2 : Hid (Calls Tryz.prog 81 #[.pointer (some ⟨wb, 0, none⟩), .agg #[.int .i64 5, .int .i64 R, .int .i64 VV, u0, u1, u2, u3, v0, v1, v2, v3, .slice ta tl tc, .slice ea el ec]] V (PutPost B wb (L ++ ([123, 10] ++ lnsB vs (l.take q)) ++ SX) (.slice va vs.length cv) V)) := hcV
        have hfld : ∀ W, (Instr.field 105 (.agg #[.bool f0, .bool f1, .bool f2, .bool f3, .bool f4, .bool f5, .func (.func 81) #[] #[]]) 6).run Tryz.prog W = .ok (.func (.func 81) #[] #[]) W := fun W => rfl
        clear hget hcV
        go_upto_region 5 with fail
        rw [hVx.out]
        clear e0 e1 e2 e3 e4 e5 e6 e7 e8 e9 e10 e11 e12 hVx
        go_wp2_with (first
          | (refine wpList_look_of _ rfl _ _ 90 3 105 rfl Tryz.underlying90 Tryz.underlying3 _ (zeroForm _) _ _ rfl HMV.out _ (by rfl) _ Hget.out ?_)
          | (go_at_call 81
             with_reducible refine hc2.out.mono ?_
             rintro e w3 ⟨rfl, hw3, hk3⟩
             have HW3 := hid hw3
             have HK3 := hid (HKV.out.trans hk3)
             have HM3 := hid (hk3.map HMV.out hne)
             clear hw3 hk3)
          | (go_at_call 25
             with_reducible refine (hput.out 10 _ _ HW3.out (Nat.le_trans hBw HK3.out.bl.size) hl2.out).mono ?_
             rintro e w4 ⟨rfl, hw4, hk4⟩
             have HW4 := hid hw4
             have HK4 := hid (HK3.out.trans hk4)
             have HM4 := hid (hk4.map HM3.out hne)
             clear hw4 hk4)
          | fail)
        go_roundw
        case rel => exact ⟨q + 1, by omega, by simp, by show Wt _ _ _ _ _; rw [← hfin.out]; exact HW4.out, HK4, HM4⟩
        case measure => simp [intOf]; omega
      · have Hget : Hid (mget formZ 6 formsL = .agg #[.bool f0, .bool f1, .bool f2, .bool f3, .bool f4, .bool f5, .func (.func 82) #[] #[]]) := hget
        have hc2 : Hid (Calls Tryz.prog 82 #[.pointer (some ⟨wb, 0, none⟩), .agg #[.int .i64 6, .int .i64 R, .int .i64 VV, u0, u1, u2, u3, v0, v1, v2, v3, .slice ta tl tc, .slice ea el ec]] V (PutPost B wb (L ++ ([123, 10] ++ lnsB vs (l.take q)) ++ SX) (.slice va vs.length cv) V)) := hcV
        have hfld : ∀ W, (Instr.field 105 (.agg #[.bool f0, .bool f1, .bool f2, .bool f3, .bool f4, .bool f5, .func (.func 82) #[] #[]]) 6).run Tryz.prog W = .ok (.func (.func 82) #[] #[]) W := fun W => rfl
        clear hget hcV
        go_upto_region 5 with fail
        rw [hVx.out]
        clear e0 e1 e2 e3 e4 e5 e6 e7 e8 e9 e10 e11 e12 hVx
        go_wp2_with (first
          | (refine wpList_look_of _ rfl _ _ 90 3 105 rfl Tryz.underlying90 Tryz.underlying3 _ (zeroForm _) _ _ rfl HMV.out _ (by rfl) _ Hget.out ?_)
          | (go_at_call 82
             with_reducible refine hc2.out.mono ?_
             rintro e w3 ⟨rfl, hw3, hk3⟩
             have HW3 := hid hw3
             have HK3 := hid (HKV.out.trans hk3)
             have HM3 := hid (hk3.map HMV.out hne)
             clear hw3 hk3)
          | (go_at_call 25
             with_reducible refine (hput.out 10 _ _ HW3.out (Nat.le_trans hBw HK3.out.bl.size) hl2.out).mono ?_
             rintro e w4 ⟨rfl, hw4, hk4⟩
             have HW4 := hid hw4
             have HK4 := hid (HK3.out.trans hk4)
             have HM4 := hid (hk4.map HM3.out hne)
             clear hw4 hk4)
          | fail)
        go_roundw
        case rel => exact ⟨q + 1, by omega, by simp, by show Wt _ _ _ _ _; rw [← hfin.out]; exact HW4.out, HK4, HM4⟩
        case measure => simp [intOf]; omega
      · have Hget : Hid (mget formZ 7 formsL = .agg #[.bool f0, .bool f1, .bool f2, .bool f3, .bool f4, .bool f5, .func (.func 83) #[] #[]]) := hget
        have hc2 : Hid (Calls Tryz.prog 83 #[.pointer (some ⟨wb, 0, none⟩), .agg #[.int .i64 7, .int .i64 R, .int .i64 VV, u0, u1, u2, u3, v0, v1, v2, v3, .slice ta tl tc, .slice ea el ec]] V (PutPost B wb (L ++ ([123, 10] ++ lnsB vs (l.take q)) ++ SX) (.slice va vs.length cv) V)) := hcV
        have hfld : ∀ W, (Instr.field 105 (.agg #[.bool f0, .bool f1, .bool f2, .bool f3, .bool f4, .bool f5, .func (.func 83) #[] #[]]) 6).run Tryz.prog W = .ok (.func (.func 83) #[] #[]) W := fun W => rfl
        clear hget hcV
        go_upto_region 5 with fail
        rw [hVx.out]
        clear e0 e1 e2 e3 e4 e5 e6 e7 e8 e9 e10 e11 e12 hVx
        go_wp2_with (first
          | (refine wpList_look_of _ rfl _ _ 90 3 105 rfl Tryz.underlying90 Tryz.underlying3 _ (zeroForm _) _ _ rfl HMV.out _ (by rfl) _ Hget.out ?_)
          | (go_at_call 83
             with_reducible refine hc2.out.mono ?_
             rintro e w3 ⟨rfl, hw3, hk3⟩
             have HW3 := hid hw3
             have HK3 := hid (HKV.out.trans hk3)
             have HM3 := hid (hk3.map HMV.out hne)
             clear hw3 hk3)
          | (go_at_call 25
             with_reducible refine (hput.out 10 _ _ HW3.out (Nat.le_trans hBw HK3.out.bl.size) hl2.out).mono ?_
             rintro e w4 ⟨rfl, hw4, hk4⟩
             have HW4 := hid hw4
             have HK4 := hid (HK3.out.trans hk4)
             have HM4 := hid (hk4.map HM3.out hne)
             clear hw4 hk4)
          | fail)
        go_roundw
        case rel => exact ⟨q + 1, by omega, by simp, by show Wt _ _ _ _ _; rw [← hfin.out]; exact HW4.out, HK4, HM4⟩
        case measure => simp [intOf]; omega
      · have Hget : Hid (mget formZ 8 formsL = .agg #[.bool f0, .bool f1, .bool f2, .bool f3, .bool f4, .bool f5, .func (.func 84) #[] #[]]) := hget
        have hc2 : Hid (Calls Tryz.prog 84 #[.pointer (some ⟨wb, 0, none⟩), .agg #[.int .i64 8, .int .i64 R, .int .i64 VV, u0, u1, u2, u3, v0, v1, v2, v3, .slice ta tl tc, .slice ea el ec]] V (PutPost B wb (L ++ ([123, 10] ++ lnsB vs (l.take q)) ++ SX) (.slice va vs.length cv) V)) := hcV
        have hfld : ∀ W, (Instr.field 105 (.agg #[.bool f0, .bool f1, .bool f2, .bool f3, .bool f4, .bool f5, .func (.func 84) #[] #[]]) 6).run Tryz.prog W = .ok (.func (.func 84) #[] #[]) W := fun W => rfl
        clear hget hcV
        go_upto_region 5 with fail
        rw [hVx.out]
        clear e0 e1 e2 e3 e4 e5 e6 e7 e8 e9 e10 e11 e12 hVx
        go_wp2_with (first
          | (refine wpList_look_of _ rfl _ _ 90 3 105 rfl Tryz.underlying90 Tryz.underlying3 _ (zeroForm _) _ _ rfl HMV.out _ (by rfl) _ Hget.out ?_)
          | (go_at_call 84
             with_reducible refine hc2.out.mono ?_
             rintro e w3 ⟨rfl, hw3, hk3⟩
             have HW3 := hid hw3
             have HK3 := hid (HKV.out.trans hk3)
             have HM3 := hid (hk3.map HMV.out hne)
             clear hw3 hk3)
          | (go_at_call 25
             with_reducible refine (hput.out 10 _ _ HW3.out (Nat.le_trans hBw HK3.out.bl.size) hl2.out).mono ?_
             rintro e w4 ⟨rfl, hw4, hk4⟩
             have HW4 := hid hw4
             have HK4 := hid (HK3.out.trans hk4)
             have HM4 := hid (hk4.map HM3.out hne)
             clear hw4 hk4)
          | fail)
        go_roundw
        case rel => exact ⟨q + 1, by omega, by simp, by show Wt _ _ _ _ _; rw [← hfin.out]; exact HW4.out, HK4, HM4⟩
        case measure => simp [intOf]; omega
      · have Hget : Hid (mget formZ 9 formsL = .agg #[.bool f0, .bool f1, .bool f2, .bool f3, .bool f4, .bool f5, .func (.func 85) #[] #[]]) := hget
        have hc2 : Hid (Calls Tryz.prog 85 #[.pointer (some ⟨wb, 0, none⟩), .agg #[.int .i64 9, .int .i64 R, .int .i64 VV, u0, u1, u2, u3, v0, v1, v2, v3, .slice ta tl tc, .slice ea el ec]] V (PutPost B wb (L ++ ([123, 10] ++ lnsB vs (l.take q)) ++ SX) (.slice va vs.length cv) V)) := hcV
        have hfld : ∀ W, (Instr.field 105 (.agg #[.bool f0, .bool f1, .bool f2, .bool f3, .bool f4, .bool f5, .func (.func 85) #[] #[]]) 6).run Tryz.prog W = .ok (.func (.func 85) #[] #[]) W := fun W => rfl
        clear hget hcV
        go_upto_region 5 with fail
        rw [hVx.out]
        clear e0 e1 e2 e3 e4 e5 e6 e7 e8 e9 e10 e11 e12 hVx
        go_wp2_with (first
          | (refine wpList_look_of _ rfl _ _ 90 3 105 rfl Tryz.underlying90 Tryz.underlying3 _ (zeroForm _) _ _ rfl HMV.out _ (by rfl) _ Hget.out ?_)
          | (go_at_call 85
             with_reducible refine hc2.out.mono ?_
             rintro e w3 ⟨rfl, hw3, hk3⟩
             have HW3 := hid hw3
             have HK3 := hid (HKV.out.trans hk3)
             have HM3 := hid (hk3.map HMV.out hne)
             clear hw3 hk3)
          | (go_at_call 25
             with_reducible refine (hput.out 10 _ _ HW3.out (Nat.le_trans hBw HK3.out.bl.size) hl2.out).mono ?_
             rintro e w4 ⟨rfl, hw4, hk4⟩
             have HW4 := hid hw4
             have HK4 := hid (HK3.out.trans hk4)
             have HM4 := hid (hk4.map HM3.out hne)
             clear hw4 hk4)
          | fail)
        go_roundw
        case rel => exact ⟨q + 1, by omega, by simp, by show Wt _ _ _ _ _; rw [← hfin.out]; exact HW4.out, HK4, HM4⟩
        case measure => simp [intOf]; omega
      · have Hget : Hid (mget formZ 10 formsL = .agg #[.bool f0, .bool f1, .bool f2, .bool f3, .bool f4, .bool f5, .func (.func 86) #[] #[]]) := hget
        have hc2 : Hid (Calls Tryz.prog 86 #[.pointer (some ⟨wb, 0, none⟩), .agg #[.int .i64 10, .int .i64 R, .int .i64 VV, u0, u1, u2, u3, v0, v1, v2, v3, .slice ta tl tc, .slice ea el ec]] V (PutPost B wb (L ++ ([123, 10] ++ lnsB vs (l.take q)) ++ SX) (.slice va vs.length cv) V)) := hcV
        have hfld : ∀ W, (Instr.field 105 (.agg #[.bool f0, .bool f1, .bool f2, .bool f3, .bool f4, .bool f5, .func (.func 86) #[] #[]]) 6).run Tryz.prog W = .ok (.func (.func 86) #[] #[]) W := fun W => rfl
        clear hget hcV
        go_upto_region 5 with fail
        rw [hVx.out]
        clear e0 e1 e2 e3 e4 e5 e6 e7 e8 e9 e10 e11 e12 hVx
        go_wp2_with (first
          | (refine wpList_look_of _ rfl _ _ 90 3 105 rfl Tryz.underlying90 Tryz.underlying3 _ (zeroForm _) _ _ rfl HMV.out _ (by rfl) _ Hget.out ?_)
          | (go_at_call 86
             with_reducible refine hc2.out.mono ?_
             rintro e w3 ⟨rfl, hw3, hk3⟩
             have HW3 := hid hw3
             have HK3 := hid (HKV.out.trans hk3)
             have HM3 := hid (hk3.map HMV.out hne)
             clear hw3 hk3)
          | (go_at_call 25
             with_reducible refine (hput.out 10 _ _ HW3.out (Nat.le_trans hBw HK3.out.bl.size) hl2.out).mono ?_
             rintro e w4 ⟨rfl, hw4, hk4⟩
             have HW4 := hid hw4
             have HK4 := hid (HK3.out.trans hk4)
             have HM4 := hid (hk4.map HM3.out hne)
             clear hw4 hk4)
          | fail)
        go_roundw
        case rel => exact ⟨q + 1, by omega, by simp, by show Wt _ _ _ _ _; rw [← hfin.out]; exact HW4.out, HK4, HM4⟩
        case measure => simp [intOf]; omega
      · have Hget : Hid (mget formZ 11 formsL = .agg #[.bool f0, .bool f1, .bool f2, .bool f3, .bool f4, .bool f5, .func (.func 87) #[] #[]]) := hget
        have hc2 : Hid (Calls Tryz.prog 87 #[.pointer (some ⟨wb, 0, none⟩), .agg #[.int .i64 11, .int .i64 R, .int .i64 VV, u0, u1, u2, u3, v0, v1, v2, v3, .slice ta tl tc, .slice ea el ec]] V (PutPost B wb (L ++ ([123, 10] ++ lnsB vs (l.take q)) ++ SX) (.slice va vs.length cv) V)) := hcV
        have hfld : ∀ W, (Instr.field 105 (.agg #[.bool f0, .bool f1, .bool f2, .bool f3, .bool f4, .bool f5, .func (.func 87) #[] #[]]) 6).run Tryz.prog W = .ok (.func (.func 87) #[] #[]) W := fun W => rfl
        clear hget hcV
        go_upto_region 5 with fail
        rw [hVx.out]
        clear e0 e1 e2 e3 e4 e5 e6 e7 e8 e9 e10 e11 e12 hVx
        go_wp2_with (first
          | (refine wpList_look_of _ rfl _ _ 90 3 105 rfl Tryz.underlying90 Tryz.underlying3 _ (zeroForm _) _ _ rfl HMV.out _ (by rfl) _ Hget.out ?_)
          | (go_at_call 87
             with_reducible refine hc2.out.mono ?_
             rintro e w3 ⟨rfl, hw3, hk3⟩
             have HW3 := hid hw3
             have HK3 := hid (HKV.out.trans hk3)
             have HM3 := hid (hk3.map HMV.out hne)
             clear hw3 hk3)
          | (go_at_call 25
             with_reducible refine (hput.out 10 _ _ HW3.out (Nat.le_trans hBw HK3.out.bl.size) hl2.out).mono ?_
             rintro e w4 ⟨rfl, hw4, hk4⟩
             have HW4 := hid hw4
             have HK4 := hid (HK3.out.trans hk4)
             have HM4 := hid (hk4.map HM3.out hne)
             clear hw4 hk4)
          | fail)
        go_roundw
        case rel => exact ⟨q + 1, by omega, by simp, by show Wt _ _ _ _ _; rw [← hfin.out]; exact HW4.out, HK4, HM4⟩
        case measure => simp [intOf]; omega
    · obtain rfl : q = l.length := by omega
      rw [List.take_length] at hW
      have hl3 : Hid ((L ++ ([123, 10] ++ lnsB vs l)).length ≤ 99000000000) := by
        have := Hlen.out
        show _ ≤ _
        simp only [List.length_append, List.length_cons, List.length_nil]
        omega
      have hfin : Hid (L ++ ([123, 10] ++ lnsB vs l) ++ [125] = L ++ blkB vs l) := by show _ = _; unfold blkB; simp only [List.append_assoc]
      go_wp2_with (first
        | (go_at_call 25
           with_reducible refine (hput.out 125 _ _ hW.out (Nat.le_trans hBw hK.out.bl.size) hl3.out).mono ?_
           rintro e w4 ⟨rfl, hw4, hk4⟩
           have HW4 := hid hw4
           have HK4 := hid (hK.out.trans hk4)
           clear hw4 hk4)
        | fail)
      go_end0
      exact ⟨rfl, by rw [← hfin.out]; exact HW4.out, HK4.out⟩
end Go.Proofs.YtphlbbnmligadaaGreatDoor
