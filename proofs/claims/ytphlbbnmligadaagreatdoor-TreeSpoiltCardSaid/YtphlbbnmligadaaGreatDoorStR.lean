/- Statements: the document's word. -/
import Derived.Test.YtphlbbnmligadaaGreatDoorBunS
import Derived.Test.YtphlbbnmligadaaGreatDoorTreF
namespace Go.Proofs.YtphlbbnmligadaaGreatDoor
open Go.RowKit

/-- What the document tells of statements. -/
def StmtsPost (vars dom : Int) (deep : Nat) (l : List St) (w : World) (e : Ending) (w' : World) : Prop :=
  ∃ n : Int, e = .returned (.tuple #[.int .i64 n, .bool (sumB vars dom deep l 0)]) ∧ 0 ≤ n ∧ n ≤ 10000 ∧ (sumB vars dom deep l 0 = true → n = cntL l) ∧ Below w.heap.size w w'
def StmtsC (vars dom : Int) (deep : Nat) : Prop :=
  ∀ (di : Int) (l : List St) (a : Option Addr) (cap : Nat) (w : World), di = deep → StRow w (In_ w) a l.length cap l →
    Calls Tryz.prog 66 #[.slice a l.length cap, .int .i64 di, .int .i64 vars, .int .i64 dom] w (StmtsPost vars dom deep l w)

theorem sumB_ok {vars dom : Int} {deep : Nat} {l : List St} (h : okL vars dom deep l = false) (m : Nat) : sumB vars dom deep l m = false := by
  unfold sumB; rw [h]; rfl
theorem sumB_many {vars dom : Int} {deep : Nat} {l : List St} {m : Nat} (h : 200 < m + cntL l) : sumB vars dom deep l m = false := by
  unfold sumB; rw [decide_eq_false (by omega)]; simp
theorem sumB_false {vars dom : Int} {deep : Nat} {l : List St} (h : sumB vars dom deep l 0 = false) : okL vars dom deep l = false ∨ 200 < cntL l := by
  unfold sumB at h
  cases ho : okL vars dom deep l
  · exact .inl rfl
  · right
    rw [ho] at h
    simpa using h
theorem sumB_true {vars dom : Int} {deep : Nat} {l : List St} {m : Nat} (h : sumB vars dom deep l m = true) : okL vars dom deep l = true ∧ m + cntL l ≤ 200 := by
  unfold sumB at h; simpa using h

set_option maxRecDepth 100000 in
set_option maxHeartbeats 8000000 in
theorem refstmts_step (vars dom : Int) (deep : Nat) (hdeep : deep ≤ 1000) (ih : ∀ d, deep = d + 1 → StmtsC vars dom d) : StmtsC vars dom deep := by
  intro di l a cap w hdi hin
  have hcap := hin.le
  have hmx := hin.mx
  unfold maxLen at hmx
  have Hin := hid hin
  have Hih := hid ih
  have Hdi := hid hdi
  have hd1 : di ≤ 1000 := by omega
  have hd2 : 0 ≤ di := by omega
  clear ih hdi hin
  have hno : Hid (∀ w', Below w.heap.size w w' → sumB vars dom deep l 0 = false → StmtsPost vars dom deep l w (.returned (.tuple #[.int .i64 0, .bool false])) w') := fun w' hB hf =>
    ⟨0, by rw [hf], Int.le_refl _, by omega, fun h => (by rw [hf] at h; cases h), hB⟩
  go_enter Tryz.func66, Tryz.ntmps66
  go_wp2_with fail
  go_loopw [10, 11] (fun c i wr => ∃ (k n : Nat) (ci : Int), k ≤ l.length ∧ i = .int .i64 k ∧ c = .int .i64 ci ∧ ci = n ∧ n ≤ 600 ∧ Hid (okL vars dom deep (l.take k) = true ∧ n = cntL (l.take k)) ∧ Kp w wr) (fun _ i _ => l.length - (intOf i).toNat)
  case atStart => exact ⟨0, 0, 0, Nat.zero_le _, rfl, rfl, rfl, by omega, ⟨rfl, rfl⟩, Kp.refl _⟩
  case round =>
    obtain ⟨k, n, ci, hk, rfl, rfl, hci, hn6, hI, hK⟩ := hrel
    by_cases hlt : k < l.length
    · obtain ⟨b, off, u0, u1, u2, u3, v0, v1, v2, v3, ta, ea, tc, ec, rfl, hb, ⟨e0, e1, e2⟩, ⟨e3, e4, e5, e6⟩, ⟨e7, e8, e9, e10⟩, ⟨e11, e12⟩, ⟨ha, hbx, ht, he⟩, -⟩ := Hin.out.at_ k hlt
      have hbl := hb.lt
      have k0 : (0 : Int) ≤ k := by omega
      have k1 : (k : Int) < l.length := by omega
      have g0 := hK.1.size
      have g3 : b < wr.heap.size := by omega
      have hbad := hid (fun (h : okS vars dom deep l[k] = false) => sumB_ok (okL_take hlt h) 0)
      have hgood := hid (fun (h : okS vars dom deep l[k] = true) => okL_step hlt hI.out.1 h)
      have hmany := hid (fun (h : 200 < n + cntS l[k]) => sumB_many (vars := vars) (dom := dom) (deep := deep) (l := l) (m := 0) (by
        have h1 := cntL_take l k hlt
        have h2 := cntL_le l (k + 1)
        have h3 := hI.out.2
        omega))
      have hnext := hid (show cntL (l.take (k + 1)) = n + cntS l[k] by rw [cntL_take l k hlt, hI.out.2])
      have hce := cntS_eq l[k]
      have hzero : deep = 0 → okS vars dom deep l[k] = false := fun h => by subst h; unfold okS; rfl
      have hsucc : ∀ d, deep = d + 1 → okS vars dom deep l[k] = okF vars dom d l[k] := fun d e => by rw [e]; exact okS_succ vars dom d l[k]
      have htl := ht.le
      have htm := ht.mx
      have hel := he.le
      have hem := he.mx
      unfold maxLen at htm hem
      generalize l[k] = x at *
      obtain ⟨xk, xr, xv, xa, xb, xt, xe⟩ := x
      simp only [St.kind, St.reg, St.var, St.a, St.b, St.t, St.e] at *
      have Hce := hid hce
      have Hsucc := hid hsucc
      have Hzero := hid hzero
      clear hce hsucc hzero
      obtain ⟨o0, o1, o2, o3⟩ := ha.ones
      obtain ⟨o4, o5, o6, o7⟩ := hbx.ones
      have s0 := fun ad W m => run_store (P := Tryz.prog) W ad u0 m o0
      have s1 := fun ad W m => run_store (P := Tryz.prog) W ad u1 m o1
      have s2 := fun ad W m => run_store (P := Tryz.prog) W ad u2 m o2
      have s3 := fun ad W m => run_store (P := Tryz.prog) W ad u3 m o3
      have s4 := fun ad W m => run_store (P := Tryz.prog) W ad v0 m o4
      have s5 := fun ad W m => run_store (P := Tryz.prog) W ad v1 m o5
      have s6 := fun ad W m => run_store (P := Tryz.prog) W ad v2 m o6
      have s7 := fun ad W m => run_store (P := Tryz.prog) W ad v3 m o7
      clear o0 o1 o2 o3 o4 o5 o6 o7
      have Ha := hid ha
      have Hbx := hid hbx
      have Ht := hid ht
      have He := hid he
      clear ha hbx ht he
      have hA : Kp w (wr.alloc (.cells #[.int .i64 xk, .int .i64 xr, .int .i64 xv, u0, u1, u2, u3, v0, v1, v2, v3, .slice ta xt.length tc, .slice ea xe.length ec] 56)) := hK.alloc _
      by_cases c1 : di < 1
      · go_wp2_with fail
        go_ret2
        exact hno.out _ hA.1 (hbad.out (Hzero.out (by have := Hdi.out; omega)))
      obtain ⟨d, hd⟩ : ∃ d, deep = d + 1 := ⟨deep - 1, by have := Hdi.out; omega⟩
      have hS := hid ((Hsucc.out d hd).trans (okF_mk vars dom d xk xr xv xa xb xt xe))
      have hdd : di - 1 = (d : Int) := by have := Hdi.out; omega
      have Hdd := hid hdd
      have Hih2 := hid (Hih.out d hd)
      clear Hsucc Hzero Hih hd hdd
      by_cases c2 : 200 < ci + 1
      · go_wp2_with fail
        go_ret2
        exact hno.out _ hA.1 (hmany.out (by have := Hce.out; omega))
      by_cases c3 : xk < 1
      · go_wp2_with fail
        go_ret2
        exact hno.out _ hA.1 (hbad.out (by rw [hS.out, decide_eq_false (show ¬ 1 ≤ xk by omega)]; simp))
      by_cases c4 : 11 < xk
      · go_wp2_with fail
        go_ret2
        exact hno.out _ hA.1 (hbad.out (by rw [hS.out, decide_eq_false (show ¬ xk ≤ 11 by omega)]; simp))
      have hP := hid (refPart_any xk xr xv xa xb vars dom [u0, u1, u2, u3] [v0, v1, v2, v3] _ (hA.ex Ha.out) (hA.ex Hbx.out))
      go_wp2_with fail
      refine hP.out.mono ?_
      rintro e w1 ⟨rfl, hb1⟩
      have hK1 := hA.next hb1
      have q0 : w1.cell? ⟨wr.heap.size, 0, none⟩ = some (.int .i64 xk) := (hb1.cell (p := ⟨_, _, none⟩) (by simp)).trans (by go_simp)
      have q11 : w1.cell? ⟨wr.heap.size, 11, none⟩ = some (.slice ta xt.length tc) := (hb1.cell (p := ⟨_, _, none⟩) (by simp)).trans (by go_simp)
      have q12 : w1.cell? ⟨wr.heap.size, 12, none⟩ = some (.slice ea xe.length ec) := (hb1.cell (p := ⟨_, _, none⟩) (by simp)).trans (by go_simp)
      have g1 : wr.heap.size < w1.heap.size := by have := hb1.size; simp at this; omega
      clear s0 s1 s2 s3 s4 s5 s6 s7 hP hb1 hA e0 e1 e2 e3 e4 e5 e6 e7 e8 e9 e10 e11 e12
      cases hpl : partL xk xr xv xa xb vars dom
      · have hfl := hid (hbad.out (by rw [hS.out, hpl]; simp))
        clear hpl
        go_wp2_with fail
        go_ret2
        exact hno.out _ hK1.1 hfl.out
      have hS2 : Hid (okS vars dom deep (.mk xk xr xv xa xb xt xe) = ((h4 xk || xt.isEmpty) && (h5 xk || xe.isEmpty) && okL vars dom d xt && okL vars dom d xe)) := by
        show _ = _
        rw [hS.out, hpl, decide_eq_true (show 1 ≤ xk by omega), decide_eq_true (show xk ≤ 11 by omega)]
        rfl
      clear hpl hS c3 c4
      have hF : Hid ((h4 xk || xt.isEmpty) = true ∧ (h5 xk || xe.isEmpty) = true → (sumB vars dom d xt 0 = false → sumB vars dom deep l 0 = false) ∧ (sumB vars dom d xe 0 = false → sumB vars dom deep l 0 = false) ∧
          (sumB vars dom d xt 0 = true → sumB vars dom d xe 0 = true → cntL xt ≤ 200 ∧ cntL xe ≤ 200 ∧ okL vars dom deep (l.take (k + 1)) = true ∧ n + 1 + cntL xt + cntL xe = cntL (l.take (k + 1)))) := by
        rintro ⟨g1, g2⟩
        have hS3 : okS vars dom deep (.mk xk xr xv xa xb xt xe) = (okL vars dom d xt && okL vars dom d xe) := by rw [hS2.out, g1, g2]; rfl
        refine ⟨fun r1 => ?_, fun r2 => ?_, fun r1 r2 => ?_⟩
        · rcases sumB_false r1 with h | h
          · exact hbad.out (by rw [hS3, h]; rfl)
          · exact hmany.out (by have := Hce.out; omega)
        · rcases sumB_false r2 with h | h
          · exact hbad.out (by rw [hS3, h]; simp)
          · exact hmany.out (by have := Hce.out; omega)
        · obtain ⟨s1, s2⟩ := sumB_true r1
          obtain ⟨s3, s4⟩ := sumB_true r2
          exact ⟨by omega, by omega, hgood.out (by rw [hS3, s1, s3]; rfl), by rw [hnext.out]; have := Hce.out; omega⟩
      have HT : Hid (∀ w1, Kp w w1 → Calls Tryz.prog 66 #[.slice ta xt.length tc, .int .i64 (di - 1), .int .i64 vars, .int .i64 dom] w1 (StmtsPost vars dom d xt w1)) :=
        fun w1 hK1 => Hih2.out (di - 1) xt ta tc w1 Hdd.out (hK1.strow Ht.out)
      have HE : Hid (∀ w1, Kp w w1 → Calls Tryz.prog 66 #[.slice ea xe.length ec, .int .i64 (di - 1), .int .i64 vars, .int .i64 dom] w1 (StmtsPost vars dom d xe w1)) :=
        fun w1 hK1 => Hih2.out (di - 1) xe ea ec w1 Hdd.out (hK1.strow He.out)
      unfold StmtsPost at HT HE
      clear Ht He Hce hnext hgood
      generalize sumB vars dom d xt 0 = r1 at HT hF
      generalize cntL xt = a1 at HT hF
      generalize sumB vars dom d xe 0 = r2 at HE hF
      generalize cntL xe = a2 at HE hF
      have hcase : (xk = 10) ∨ ((xk != 10) = true ∧ 0 < xe.length) ∨ ((xk != 10) = true ∧ (xk != 11) = true ∧ xe = [] ∧ 0 < xt.length) ∨
          ((xk != 10) = true ∧ xk = 11 ∧ xe = []) ∨ ((xk != 10) = true ∧ (xk != 11) = true ∧ xe = [] ∧ xt = []) := by
        by_cases a1 : xk = 10
        · exact .inl a1
        have b1 : (xk != 10) = true := by simpa using a1
        rcases Nat.eq_zero_or_pos xe.length with z1 | z1
        case inr => exact .inr (.inl ⟨b1, z1⟩)
        have z2 := List.eq_nil_of_length_eq_zero z1
        by_cases a2 : xk = 11
        · exact .inr (.inr (.inr (.inl ⟨b1, a2, z2⟩)))
        have b2 : (xk != 11) = true := by simpa using a2
        rcases Nat.eq_zero_or_pos xt.length with z3 | z3
        case inr => exact .inr (.inr (.inl ⟨b1, b2, z2, z3⟩))
        exact .inr (.inr (.inr (.inr ⟨b1, b2, z2, List.eq_nil_of_length_eq_zero z3⟩)))
      rcases hcase with rfl | ⟨m1, m2⟩ | ⟨m1, m2, rfl, m4⟩ | ⟨m1, rfl, rfl⟩ | ⟨m1, m2, rfl, rfl⟩
      case inr.inl =>
        have hfl := hid (hbad.out (by
          rw [hS2.out]
          have : xe.isEmpty = false := by cases xe with | nil => simp at m2 | cons => rfl
          have h5f : h5 xk = false := by simpa [h5] using m1
          rw [this, h5f]; simp))
        have m3 : ¬ xe = [] := fun h => by rw [h] at m2; simp at m2
        have m5 : (0 : Int) < xe.length := by omega
        clear hS2
        go_wp2_with fail
        go_ret2
        exact hno.out _ hK1.1 hfl.out
      case inr.inr.inl =>
        have hfl := hid (hbad.out (by
          rw [hS2.out]
          have : xt.isEmpty = false := by cases xt with | nil => simp at m4 | cons => rfl
          have h4f : h4 xk = false := by simp at m1 m2; simp [h4, m1, m2]
          rw [this, h4f]; simp))
        have m3 : ¬ xt = [] := fun h => by rw [h] at m4; simp at m4
        have m5 : (0 : Int) < xt.length := by omega
        clear hS2
        go_wp2_with fail
        go_ret2
        exact hno.out _ hK1.1 hfl.out
      all_goals
        have hG := hF.out ⟨by first | rfl | exact Bool.or_true _, by first | rfl | exact Bool.or_true _⟩
        obtain ⟨hg1, hg2, hg3⟩ := hG
        have Hg1 := hid hg1
        have Hg2 := hid hg2
        have Hg3 := hid hg3
        clear hg1 hg2 hg3 hS2 hF
        go_wp2_with fail
        refine (HT.out w1 hK1).mono ?_
        rintro e w2 ⟨n1, rfl, hn10, hn11, hn12, hb2⟩
        have hK2 := hK1.next hb2
        have q12' : w2.cell? ⟨wr.heap.size, 12, none⟩ = some _ := (hb2.cell (p := ⟨_, _, none⟩) g1).trans q12
        have g2 : wr.heap.size < w2.heap.size := by have := hb2.size; omega
        have Hn12 := hid hn12
        clear hb2 hn12 q0 q11 q12 g1
        go_wp2_with fail
        refine (HE.out w2 hK2).mono ?_
        rintro e w3 ⟨n2, rfl, hn20, hn21, hn22, hb3⟩
        have hK3 := hK2.next hb3
        have Hn22 := hid hn22
        clear hb3 hn22 q12' g2
        cases r1
        · have hfl := hid (Hg1.out rfl)
          go_wp2_with fail
          go_ret2
          exact hno.out _ hK3.1 hfl.out
        cases r2
        · have hfl := hid (Hg2.out rfl)
          go_wp2_with fail
          go_ret2
          exact hno.out _ hK3.1 hfl.out
        obtain ⟨t1, t2, t3⟩ := Hg3.out rfl rfl
        obtain rfl := Hn12.out rfl
        obtain rfl := Hn22.out rfl
        have T3 := hid t3
        clear t3 Hn12 Hn22 hn10 hn11 hn20 hn21 Hg1 Hg2 Hg3
        go_wp2_with fail
        go_roundw
        case rel => exact ⟨k + 1, n + 1 + a1 + a2, _, by omega, by simp, rfl, by omega, by omega, T3, hK3⟩
        case measure => simp [intOf]; omega
    · obtain rfl : k = l.length := by omega
      rw [List.take_length] at hI
      have hfin : Hid (sumB vars dom deep l 0 = decide (n ≤ 200)) := by
        show _ = _
        unfold sumB
        rw [hI.out.1, ← hI.out.2]
        simp
      have hcn := hid hI.out.2
      clear hI
      by_cases c2 : ci ≤ 200
      all_goals
        go_wp2_with fail
        go_ret2
        refine ⟨ci, by rw [hfin.out]; simp; omega, by omega, by omega, fun _ => by rw [← hcn.out, hci], hK.1⟩
end Go.Proofs.YtphlbbnmligadaaGreatDoor
