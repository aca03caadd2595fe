/- TreeApart, walked. -/
import Derived.Test.YtphlbbnmligadaaGreatDoorBunX
import Derived.Test.YtphlbbnmligadaaGreatDoorBunO
import Derived.Test.YtphlbbnmligadaaGreatDoorBunV
namespace Go.Proofs.YtphlbbnmligadaaGreatDoor
open Go.RowKit

/-- What is known of a program by numbers. -/
structure MadeQ (p : Pg) (q : Nat) : Prop where
  hv : p.vars = nms q
  q1 : 1 ≤ q
  q3 : q ≤ 3
  d2 : 2 ≤ p.dom
  d4 : p.dom ≤ 4
  t1 : 1 ≤ p.ths.length
  t3 : p.ths.length ≤ 3
  ok : ∀ L ∈ p.ths, okL q p.dom 20 L = true ∧ SmL L
theorem MadeQ.right {p : Pg} {q : Nat} (h : MadeQ p q) : rightP p = true := by
  obtain ⟨hv, hq1, hq3, hd2, hd4, ht1, ht3, hok⟩ := h
  obtain ⟨hql, -⟩ := nms_at hq1 hq3
  have hn := nms_all hq1 hq3
  simp only [Bool.and_eq_true] at hn
  have hc := cntT_small p.ths fun L hL => (hok L hL).2.1
  unfold rightP sumT okT
  rw [hv, hql]
  simp only [Bool.and_eq_true, decide_eq_true_eq, List.all_eq_true] at hn ⊢
  exact ⟨⟨⟨⟨⟨⟨⟨⟨hq1, by omega⟩, hn.1⟩, hn.2⟩, hd2⟩, by omega⟩, ht1⟩, by omega⟩, fun L hL => (hok L hL).1, by omega⟩
theorem MadeQ.pr {p : Pg} {q : Nat} (h : MadeQ p q) : prS p = .tuple #[.string (strL (prB p)), .int .i64 0] := by
  unfold prS
  rw [h.right]
  rfl
theorem strL_list (L : List UInt8) : (strL L).data.toList = L := by simp [strL]
theorem MadeQ.lex {p : Pg} {q : Nat} (h : MadeQ p q) : ∃ ts : List Tok, Lx.lexR (strL (prB p)).data.toList = (ts, 0, 0) ∧ 9 ≤ ts.length := by
  have h1 := prB_short h.hv h.q1 h.q3 h.d2 h.d4 h.t3 h.ok
  have h2 := prB_lex h.hv h.q1 h.q3 h.d2 h.d4 h.t1 (fun l hl => (h.ok l hl).1) ((prB p).length + 1) 0 (Nat.lt_succ_self _)
  rw [strL_list]
  unfold Lx.lexR
  rw [if_neg (by omega)]
  unfold lexA
  rw [List.drop_zero, h2.1]
  exact ⟨_, rfl, h2.2⟩
theorem MadeQ.apart {p p' : Pg} {q q' : Nat} (h : MadeQ p q) (h' : MadeQ p' q') : ((strL (prB p)).toList == (strL (prB p')).toList) = eqP p p' := by
  rw [Lib.toList_data, Lib.toList_data, strL_list, strL_list, Bool.eq_iff_iff, beq_iff_eq, eqP_iff]
  constructor
  · exact fun e => prB_inj h.hv h'.hv h.q1 h.q3 h'.q1 h'.q3 h.d2 h.d4 h'.d2 h'.d4 (fun l hl => (h.ok l hl).1) (fun l hl => (h'.ok l hl).1) e
  · rintro rfl; rfl

set_option maxRecDepth 100000 in
set_option maxHeartbeats 16000000 in
theorem treeApart_walk (la : Option Addr) (ln lc : Nat) (ma : Option Addr) (mn mc : Nat) (w : World) (hv : Lx.Vars w) (hl : U8s w (In_ w) la ln lc) (hm : U8s w (In_ w) ma mn mc) :
    Calls Tryz.prog 3 #[.slice la ln lc, .slice ma mn mc] w fun e w' => e = .returned (.bool true) ∧ Below w.heap.size w w' := by
  have Hl := hid hl
  have Hm := hid hm
  have HV := hid hv
  clear hl hm hv
  go_enter Tryz.func3, Tryz.ntmps3
  go_wp2_with fail
  refine (awake_any w HV.out).mono ?_
  rintro e w0 ⟨rfl, hb0⟩
  have HK0 := hid (Kp.of hb0)
  clear hb0
  go_wp2_with fail
  refine (kinds_any w0).mono ?_
  rintro e w1 ⟨rfl, hK1, hb1⟩
  have HK1 := hid (HK0.out.next hb1)
  have hl1 : U8s w1 (In_ w1) la ln lc := (Hl.out.keep fun b o hb => HK1.out.2 b o hb).widen (In_.mono HK1.out.1.size)
  have hmade := hid (madeP_any w1 la ln lc _ 13 13 hl1 hK1)
  clear hl1 hK1 hb1 HK0
  go_wp2_with fail
  refine hmade.out.mono ?_
  intro e w2 hp2
  obtain ⟨p, q, cs, rfl, hPn, hq1, hq3, hvp, hd2, hd4, ht1, ht3, hok, hb2⟩ := hp2
  have HQ := hid (MadeQ.mk hvp hq1 hq3 hd2 hd4 ht1 ht3 hok)
  have hP : PgIn w2 (In_ w2) cs p := hPn.widen fun b hb => hb.2
  have hP0 := hP
  obtain ⟨va, cv, ta, ct, rfl, -, -, -⟩ := hP
  have HK2 := hid (HK1.out.next hb2)
  have HP2 := hid hP0
  clear hPn hvp hq1 hq3 hd2 hd4 ht1 ht3 hok hb2 hmade hP0
  go_wp2_with fail
  refine (kinds_any w2).mono ?_
  rintro e w3 ⟨rfl, hK3, hb3⟩
  have HK3 := hid (HK2.out.next hb3)
  have HP3 := hid ((Kp.of hb3).pg HP2.out)
  have hm3 : U8s w3 (In_ w3) ma mn mc := (Hm.out.keep fun b o hb => HK3.out.2 b o hb).widen (In_.mono HK3.out.1.size)
  have hmade := hid (madeP_any w3 ma mn mc _ 13 13 hm3 hK3)
  clear hm3 hK3 hb3 HP2
  go_wp2_with fail
  refine hmade.out.mono ?_
  intro e w4 hp4
  obtain ⟨p', q', ds, rfl, hPn, hq1, hq3, hvp, hd2, hd4, ht1, ht3, hok, hb4⟩ := hp4
  have HQ' := hid (MadeQ.mk hvp hq1 hq3 hd2 hd4 ht1 ht3 hok)
  have hQ : PgIn w4 (In_ w4) ds p' := hPn.widen fun b hb => hb.2
  have hQ0 := hQ
  obtain ⟨vb, cw, tb, cu, rfl, -, -, -⟩ := hQ
  have HK4 := hid (HK3.out.next hb4)
  have hP4 := (Kp.of hb4).pg HP3.out
  clear hPn hvp hq1 hq3 hd2 hd4 ht1 ht3 hok hb4 hmade
  obtain ⟨W0, hW⟩ : ∃ W0, W0 = (w4.alloc (.cells #[.slice va p.vars.length cv, .int .i64 p.dom, .slice ta p.ths.length ct] 27)).alloc (.cells #[.slice vb p'.vars.length cw, .int .i64 p'.dom, .slice tb p'.ths.length cu] 27) := ⟨_, rfl⟩
  have hB : Below w4.heap.size w4 W0 := by subst hW; exact ((Below.refl _ _).alloc (Nat.le_refl _) _).alloc (by simp) _
  have z1 : w4.heap.size + 1 < W0.heap.size := by subst hW; simp
  have z0 : w4.heap.size < W0.heap.size := by omega
  have c0 : W0.cell? ⟨w4.heap.size, 0, none⟩ = some (.slice va p.vars.length cv) := by subst hW; go_simp
  have c1 : W0.cell? ⟨w4.heap.size, 1, none⟩ = some (.int .i64 p.dom) := by subst hW; go_simp
  have c2 : W0.cell? ⟨w4.heap.size, 2, none⟩ = some (.slice ta p.ths.length ct) := by subst hW; go_simp
  have d0 : W0.cell? ⟨w4.heap.size + 1, 0, none⟩ = some (.slice vb p'.vars.length cw) := by subst hW; go_simp
  have d1 : W0.cell? ⟨w4.heap.size + 1, 1, none⟩ = some (.int .i64 p'.dom) := by subst hW; go_simp
  have d2 : W0.cell? ⟨w4.heap.size + 1, 2, none⟩ = some (.slice tb p'.ths.length cu) := by subst hW; go_simp
  have hPx := (Kp.of hB).pg hP4
  have hQx := (Kp.of hB).pg hQ0
  have hap := HQ.out.apart HQ'.out
  obtain ⟨ts, hlx, h9⟩ := HQ.out.lex
  have h1 : Hid (∀ W, Kp W0 W → Calls Tryz.prog 12 #[.agg #[.slice va p.vars.length cv, .int .i64 p.dom, .slice ta p.ths.length ct]] W fun e w' => e = .returned (.tuple #[.string (strL (prB p)), .int .i64 0]) ∧ Below W.heap.size W w') := fun W hW => by
    have h := pPrint_any p _ W (hW.pg hPx); rw [HQ.out.pr] at h; exact h
  have h2 : Hid (∀ W, Kp W0 W → Calls Tryz.prog 12 #[.agg #[.slice vb p'.vars.length cw, .int .i64 p'.dom, .slice tb p'.ths.length cu]] W fun e w' => e = .returned (.tuple #[.string (strL (prB p')), .int .i64 0]) ∧ Below W.heap.size W w') := fun W hW => by
    have h := pPrint_any p' _ W (hW.pg hQx); rw [HQ'.out.pr] at h; exact h
  have h3 : Hid (∀ W, Kp W0 W → Calls Tryz.prog 13 #[.string (strL (prB p))] W fun e w' => ∃ a cap, e = .returned (.tuple #[.slice a ts.length cap, .int .i64 0, .int .i64 0]) ∧ Below W.heap.size W w') := fun W hW => by
    refine (Lx.lex_any (strL (prB p)) W ((HV.out.next HK4.out.1).next hB |>.next hW.1)).mono ?_
    rintro e w' ⟨a, cap, rfl, -, hb⟩
    rw [hlx]
    exact ⟨a, cap, rfl, hb⟩
  have h4 : Hid (∀ W, Kp W0 W → Calls Tryz.prog 14 #[.agg #[.slice va p.vars.length cv, .int .i64 p.dom, .slice ta p.ths.length ct], .agg #[.slice vb p'.vars.length cw, .int .i64 p'.dom, .slice tb p'.ths.length cu]] W fun e w' => e = .returned (.bool (eqP p p')) ∧ Below W.heap.size W w') := fun W hW => pSame_any p p' _ _ W (hW.pg hPx) (hW.pg hQx)
  have HB := hid (HK4.out.next hB)
  have hWx := hid hW
  clear hW hB hP4 hQ0 hPx hQx HP3 HV Hl Hm HK1 HK2 HK3 HK4 HQ HQ' hlx
  generalize strL (prB p) = S at *
  generalize strL (prB p') = T at *
  generalize eqP p p' = r at *
  generalize p.vars.length = n1 at *
  generalize p.ths.length = n2 at *
  generalize p.dom = n3 at *
  generalize p'.vars.length = n4 at *
  generalize p'.ths.length = n5 at *
  generalize p'.dom = n6 at *
  generalize ts.length = tn at *
  have hrr : (r == r) = true := by cases r <;> rfl
  have h8 : decide ((8 : Int) < (tn : Int)) = true := decide_eq_true (by omega)
  go_upto_region 5 with fail
  rw [← hWx.out]
  clear hWx
  go_wp2_with fail
  refine (h1.out W0 (Kp.refl _)).mono ?_
  rintro e w5 ⟨rfl, hb5⟩
  have hk5 : Kp W0 w5 := Kp.of hb5
  have HK5 := hid hk5
  have s5 : w4.heap.size + 1 < w5.heap.size := Nat.lt_of_lt_of_le z1 hk5.1.size
  clear hb5 h1
  go_wp2_with fail
  refine (h2.out w5 HK5.out).mono ?_
  rintro e w6 ⟨rfl, hb6⟩
  have hk6 : Kp W0 w6 := HK5.out.next hb6
  have HK6 := hid hk6
  clear hb6 hk5 h2
  go_wp2_with fail
  refine (h3.out w6 HK6.out).mono ?_
  rintro e w7 ⟨xa, xc, rfl, hb7⟩
  have hk7 : Kp W0 w7 := HK6.out.next hb7
  have HK7 := hid hk7
  have s7 : w4.heap.size + 1 < w7.heap.size := Nat.lt_of_lt_of_le z1 hk7.1.size
  have s8 : w4.heap.size < w7.heap.size := by omega
  clear hb7 hk6 h3
  go_wp2_with (first
    | (go_at_call 14
       with_reducible refine (h4.out _ HK7.out).mono ?_
       rintro e w8 ⟨rfl, hb8⟩
       have hk8 := hid (HK7.out.next hb8)
       clear hb8)
    | fail)
  go_ret
  exact ⟨rfl, Kp.fin HB.out.1 hk8.out⟩
end Go.Proofs.YtphlbbnmligadaaGreatDoor
