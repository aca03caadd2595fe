/- The program's Props. -/
import Derived.Test.YtogopcejapklgaaGreatDoorTxH
namespace Go.Proofs.YtogopcejapklgaaGreatDoor
open Go.RowKit

theorem addP_len : ∀ (l out : List Pr), (addP out l).length ≤ out.length + l.length
  | [], out => by simp [addP]
  | p :: l, out => by
    have h := addP_len l (if out.any (eqP p) then out else out ++ [p])
    have e : addP out (p :: l) = addP (if out.any (eqP p) then out else out ++ [p]) l := rfl
    rw [e]
    cases hc : out.any (eqP p)
    · rw [hc] at h
      simp at h ⊢
      omega
    · rw [hc] at h
      simp at h ⊢
      omega
theorem addP_app (out l m : List Pr) : addP out (l ++ m) = addP (addP out l) m := by unfold addP; rw [List.foldl_append]
theorem addP_one (out : List Pr) (p : Pr) : addP out [p] = if out.any (eqP p) then out else out ++ [p] := rfl
theorem propsL_app : ∀ (l m : List Fm), propsL (l ++ m) = propsL l ++ propsL m
  | [], m => by simp [propsL]
  | f :: l, m => by rw [List.cons_append, propsL, propsL, propsL_app l m, List.append_assoc]
theorem propsL_one (f : Fm) : propsL [f] = propsF f := by simp [propsL]
mutual
theorem propsF_len : ∀ f : Fm, (propsF f).length ≤ f.size
  | .mk k p l => by
    rw [propsF, Fm.size_eq]
    have h1 := addP_len (propsL l) (if k = 3 then [p] else [])
    have h2 := propsL_len l
    have h3 : (if k = 3 then [p] else ([] : List Pr)).length ≤ 1 := by split <;> simp
    omega
theorem propsL_len : ∀ l : List Fm, (propsL l).length ≤ Fm.sizeL l
  | [] => by simp [propsL]
  | f :: l => by
    rw [propsL, Fm.sizeL_cons, List.length_append]
    have h1 := propsF_len f
    have h2 := propsL_len l
    omega
end
theorem PrpO.lower {w : World} {B B' : Nat} {v : Value} {l : List Pr} (h : PrpO w B v l) (hb : B' ≤ B) : PrpO w B' v l := by
  obtain ⟨h1, h⟩ := h
  refine ⟨h1, ?_⟩
  rcases h with h | ⟨g, cap, cur, e, hb', rest⟩
  · exact .inl h
  · exact .inr ⟨g, cap, cur, e, Nat.le_trans hb hb', rest⟩
/-- The contract of Props, within so much depth. -/
def PpAt (d : Nat) : Prop := ∀ (f : Fm) (a : Option Addr) (cap : Nat) (w : World), okD d f → f.size ≤ 200 → FmIn w (In_ w) (fmC f.kind f.prop a f.kids.length cap) f →
  Calls Tryz.prog 20 #[.agg #[.int .i64 f.kind, .int .i64 f.prop.k, .int .i64 f.prop.t, .int .i64 f.prop.a, .int .i64 f.prop.n, .slice a f.kids.length cap]] w
    fun e w' => ∃ A c, e = .returned (.slice A (propsF f).length c) ∧ PrpO w' w.heap.size (.slice A (propsF f).length c) (propsF f) ∧ Below w.heap.size w w'

set_option maxRecDepth 100000 in
set_option maxHeartbeats 8000000 in
theorem props_atom (p : Pr) (a : Option Addr) (cap : Nat) (w : World) :
  Calls Tryz.prog 20 #[.agg #[.int .i64 3, .int .i64 p.k, .int .i64 p.t, .int .i64 p.a, .int .i64 p.n, .slice a 0 cap]] w
    fun e w' => ∃ A c, e = .returned (.slice A 1 c) ∧ PrpO w' w.heap.size (.slice A 1 c) [p] ∧ Below w.heap.size w w' := by
  have Hnil := hid (fun W => @PrpO.nil_ W w.heap.size)
  go_enter Tryz.func20, Tryz.ntmps20
  go_upto_region 1 with fail
  generalize hW : World.alloc w _ = W0
  have HS : Hid (TSt w W0 3 p (.slice a 0 cap)) := by subst hW; exact ⟨(Below.refl _ _).alloc (Nat.le_refl _) _, alloc_at rfl⟩
  clear hW
  obtain ⟨z0, z1, z2, z3, z4, z5⟩ := HS.out.six
  go_upto_region 3 with (first
    | (at_builtin
       refine list_prp (base := w.heap.size) (.tmp 10) (.tmp 13) (.slice none 0 0) [] p rfl rfl rfl rfl (Hnil.out _) (by simp) HS.out.bl.size fun A c8 w8 hO8 hg8 hn8 => ?_
       have hX := hid (And.intro hO8 ((HS.out.bl.alloc HS.out.bl.size _).grown hg8 (HS.out.bl.alloc HS.out.bl.size _).size fun q e => by cases e))
       have z5 : w8.cell? ⟨w.heap.size, 5, none⟩ = some (.slice a 0 cap) := by
         have h1 := HS.out.sz
         have hb : w8.heap[w.heap.size]? = W0.heap[w.heap.size]? := (hg8.block _ (by simp; omega) (by simp [Value.ownBlock])).trans (Below.heap_alloc _ _ _ h1)
         rw [cell_of_heap (hb.trans HS.out.hp)]; rfl
       clear hO8 hg8 hn8)
    | fail)
  go_wp2_with fail
  go_loopw [2, 18] (fun s i wr => s = .slice A 1 c8 ∧ i = .int .i64 0 ∧ wr = w8) (fun _ _ _ => 0)
  case atStart => exact ⟨rfl, rfl, rfl⟩
  case round =>
    obtain ⟨rfl, rfl, rfl⟩ := hrel
    go_wp2_with fail
    go_ret
    exact ⟨_, _, rfl, hX.out.1, hX.out.2⟩

set_option maxRecDepth 100000 in
set_option maxHeartbeats 8000000 in
theorem props_step (d : Nat) (hR : PpAt d) : PpAt (d + 1) := by
  intro f a cap w hok hs hin
  obtain ⟨k, p, l⟩ := f
  simp only [Fm.kind, Fm.prop, Fm.kids] at hin ⊢
  rw [okD_succ] at hok
  obtain ⟨hok, hl⟩ := hok
  rcases hok with ⟨rfl, hP, rfl⟩ | ⟨hk, hpz, hn⟩
  · exact props_atom p a cap w
  obtain ⟨a', cap', e', -, -, hrow⟩ := hin.open_
  simp only [List.cons.injEq, Value.slice.injEq, and_true, true_and] at e'
  obtain ⟨rfl, rfl⟩ := e'
  have htx : propsF (.mk k p l) = addP [] (propsL l) := by rw [propsF, if_neg hk.ne]
  rw [htx]
  have hsz : Fm.sizeL l ≤ 200 := by rw [Fm.size_eq] at hs; omega
  have HR : Hid (∀ j (h : j < l.length) (ka : Option Addr) (kc : Nat) (W : World), FmIn W (In_ W) (fmC l[j].kind l[j].prop ka l[j].kids.length kc) l[j] →
      Calls Tryz.prog 20 #[.agg #[.int .i64 l[j].kind, .int .i64 l[j].prop.k, .int .i64 l[j].prop.t, .int .i64 l[j].prop.a, .int .i64 l[j].prop.n, .slice ka l[j].kids.length kc]] W
        fun e w' => ∃ A c, e = .returned (.slice A (propsF l[j]).length c) ∧ PrpO w' W.heap.size (.slice A (propsF l[j]).length c) (propsF l[j]) ∧ Below W.heap.size W w') :=
    hid fun j h ka kc W h2 => hR l[j] ka kc W (okL_mem hl _ (List.getElem_mem h)) (Nat.le_trans (sizeL_mem _ (List.getElem_mem h)) hsz) h2
  have Hbnd : Hid (∀ j (h : j < l.length) m, (addP (addP [] (propsL (l.take j))) ((propsF l[j]).take m)).length ≤ 400) := hid fun j h m => by
    have h1 := addP_len ((propsF l[j]).take m) (addP [] (propsL (l.take j)))
    have h2 := addP_len (propsL (l.take j)) []
    have h3 := propsL_len (l.take j)
    have h4 := propsF_len l[j]
    have h5 := sizeL_mem l[j] (List.getElem_mem h)
    have h6 := Fm.sizeL_append (l.take j) (l.drop j)
    rw [List.take_append_drop] at h6
    have h7 : ((propsF l[j]).take m).length ≤ (propsF l[j]).length := List.length_take_le' _ _
    simp only [List.length_nil] at h2
    omega
  have hmx := hrow.mx
  have hle := hrow.le
  unfold maxLen at hmx
  have Hrow := hid hrow
  have hk3 : (k == 3) = false := by simpa using hk.ne
  clear hl hpz hn hin hrow htx hs hsz hR hk
  go_enter Tryz.func20, Tryz.ntmps20
  go_upto_region 3 with fail
  generalize hW : World.alloc w _ = W0
  have HS : Hid (TSt w W0 k p (.slice a l.length cap)) := by subst hW; exact ⟨(Below.refl _ _).alloc (Nat.le_refl _) _, alloc_at rfl⟩
  clear hW
  obtain ⟨-, -, -, -, -, z5⟩ := HS.out.six
  have hw0 := HS.out.sz
  go_wp2_with fail
  go_loopw [2, 18] (fun s i wr => ∃ (q : Nat) (aa : Option Addr) (cc : Nat), q ≤ l.length ∧ s = .slice aa (addP [] (propsL (l.take q))).length cc ∧ i = .int .i64 q ∧ Hid (PrpO wr W0.heap.size (.slice aa (addP [] (propsL (l.take q))).length cc) (addP [] (propsL (l.take q))) ∧ Below W0.heap.size W0 wr)) (fun _ i _ => l.length - (intOf i).toNat)
  case atStart => exact ⟨0, none, 0, Nat.zero_le _, rfl, rfl, PrpO.nil_, Below.refl _ _⟩
  case round =>
    obtain ⟨q, aa, cc, hq, rfl, rfl, hQ⟩ := hrel
    by_cases hlt : q < l.length
    case neg =>
      obtain rfl : q = l.length := by omega
      rw [List.take_length] at hQ ⊢
      have hB := hid (HS.out.bl.trans (hQ.out.2.mono HS.out.bl.size))
      have hO : Hid (∀ v, PrpO wr W0.heap.size v (addP [] (propsL l)) → PrpO wr w.heap.size v (addP [] (propsL l))) := hid fun v h => PrpO.lower h HS.out.bl.size
      go_wp2_with fail
      go_ret
      exact ⟨_, _, rfl, hO.out _ hQ.out.1, hB.out⟩
    have hB := hid (HS.out.bl.trans (hQ.out.2.mono HS.out.bl.size))
    have hin' : FmRow wr (In_ w) a l.length cap l := Hrow.out.keep fun b o hb => hB.out.cell (p := ⟨b, o, none⟩) hb
    obtain ⟨b, off, ka, kc, rfl, hb, ⟨e0, e1, e2, e3, e4, e5⟩, -, hfm⟩ := hin'.at_ q hlt
    have k0 : (0 : Int) ≤ q := by omega
    have k1 : (q : Int) < l.length := by omega
    have htk : Hid (addP (addP [] (propsL (l.take q))) (propsF l[q]) = addP [] (propsL (l.take (q + 1)))) := hid (by rw [List.take_succ_eq_append_getElem hlt, propsL_app, propsL_one, addP_app])
    have hbnd := hid (Hbnd.out q hlt)
    have hszw := hB.out.size
    have hcall : Hid (∀ W, Below wr.heap.size wr W → Calls Tryz.prog 20 #[.agg #[.int .i64 l[q].kind, .int .i64 l[q].prop.k, .int .i64 l[q].prop.t, .int .i64 l[q].prop.a, .int .i64 l[q].prop.n, .slice ka l[q].kids.length kc]] W
        fun e w' => ∃ A c, e = .returned (.slice A (propsF l[q]).length c) ∧ PrpO w' W.heap.size (.slice A (propsF l[q]).length c) (propsF l[q]) ∧ Below W.heap.size W w') :=
      hid fun W hbW => HR.out q hlt ka kc W ((hfm.keep fun b o hb => hbW.cell (p := ⟨b, o, none⟩) (Nat.lt_of_lt_of_le hb hszw)).widen fun b hb => Nat.lt_of_lt_of_le hb (Nat.le_trans hszw hbW.size))
    have hQ0 := hid hQ.out
    generalize propsF l[q] = P at *
    generalize addP [] (propsL (l.take q)) = L0 at *
    generalize l[q].kind = kd at *
    generalize l[q].prop.k = pk at *
    generalize l[q].prop.t = pt at *
    generalize l[q].prop.a = pa at *
    generalize l[q].prop.n = pn at *
    generalize l[q].kids.length = kl at *
    clear hQ hin' hfm z5 Hbnd
    go_upto_region 6 with fail
    generalize hW : World.alloc wr _ = W13
    have hh : W13.heap[wr.heap.size]? = some (.cells #[.int .i64 kd, .int .i64 pk, .int .i64 pt, .int .i64 pa, .int .i64 pn, .slice ka kl kc] 30 (0, 0)) := by subst hW; exact alloc_at rfl
    have hbW : Hid (Below wr.heap.size wr W13) := by
      subst hW
      exact (Below.refl _ _).alloc (Nat.le_refl _) _
    have z0 := cell_of_heap (j := 0) hh
    have z1 := cell_of_heap (j := 1) hh
    have z2 := cell_of_heap (j := 2) hh
    have z3 := cell_of_heap (j := 3) hh
    have z4 := cell_of_heap (j := 4) hh
    have z5 := cell_of_heap (j := 5) hh
    simp at z0 z1 z2 z3 z4 z5
    have hcall := hid (hcall.out W13 hbW.out)
    have hO := hid (hQ0.out.1.below hbW.out)
    have hBq := hid (hQ0.out.2.trans (hbW.out.mono hQ0.out.2.size))
    have hlo : Hid (∀ k, (Value.slice aa L0.length cc).ownBlock = some k → k < W13.heap.size) := hid fun k e => (World.ownsRow.lt hO.out k e).2
    clear hW hh hbW e0 e1 e2 e3 e4 e5 hQ0
    go_wp2_with (first
      | (go_at_call 20
         with_reducible refine hcall.out.mono ?_
         rintro e w7 ⟨a7, c7, rfl, hO7, hb7⟩
         have hOL := hid (hO.out.below hb7)
         have hB7 := hid (hBq.out.trans (hb7.mono hBq.out.size))
         have hz7 := hb7.size
         have hP7 : Hid (PrIn w7 (fun b => W13.heap.size ≤ b ∧ b < w7.heap.size) a7 P.length c7 P) := by
           obtain ⟨a8, c8, e8, h8⟩ := hO7.in_
           injection e8 with e8 e9 e10
           subst e8 e10
           exact hid h8
         clear hO7 hb7)
      | fail)
    have hmx7 := hP7.out.2.mx
    have hle7 := hP7.out.2.le
    unfold maxLen at hmx7
    go_loopw [2, 25] (fun s i wx => ∃ (j : Nat) (ab : Option Addr) (cb : Nat), j ≤ P.length ∧ s = .slice ab (addP L0 (P.take j)).length cb ∧ i = .int .i64 j ∧ Hid (PrpO wx W0.heap.size (.slice ab (addP L0 (P.take j)).length cb) (addP L0 (P.take j)) ∧ Below W0.heap.size W0 wx ∧ w7.heap.size ≤ wx.heap.size ∧ (∀ b, W13.heap.size ≤ b → b < w7.heap.size → wx.heap[b]? = w7.heap[b]?) ∧ ∀ k, (Value.slice ab (addP L0 (P.take j)).length cb).ownBlock = some k → k < W13.heap.size ∨ w7.heap.size ≤ k)) (fun _ i _ => P.length - (intOf i).toNat)
    case atStart => exact ⟨0, aa, cc, Nat.zero_le _, rfl, rfl, hOL.out, hB7.out, Nat.le_refl _, fun _ _ _ => rfl, fun k e => .inl (hlo.out k e)⟩
    case round =>
      obtain ⟨j, ab, cb, hj, rfl, rfl, hT⟩ := hrel
      by_cases hjt : j < P.length
      case neg =>
        obtain rfl : j = P.length := by omega
        rw [List.take_length, htk.out] at hT
        rw [List.take_length, htk.out]
        have hX := hid (And.intro hT.out.1 hT.out.2.1)
        clear hT
        go_wp2_with fail
        go_roundw
        case rel => exact ⟨q + 1, _, _, by omega, rfl, by go_num, hX.out⟩
        case measure => simp [intOf]; omega
      have hP : PrIn wr (fun b => W13.heap.size ≤ b ∧ b < w7.heap.size) a7 P.length c7 P := hP7.out.keep fun b o hb => World.cell?_of_block (w := w7) (a := ⟨b, o, none⟩) (hT.out.2.2.2.1 b hb.1 hb.2)
      obtain ⟨b2, off2, rfl, hb2, f0, f1, f2, f3⟩ := hP.at_ j hjt
      have hb2' : b2 < wr.heap.size := Nat.lt_of_lt_of_le hb2.2 hT.out.2.2.1
      have hxs : Hid (addP L0 (P.take (j + 1)) = if (addP L0 (P.take j)).any (eqP P[j]) then addP L0 (P.take j) else addP L0 (P.take j) ++ [P[j]]) := hid (by rw [List.take_succ_eq_append_getElem hjt, addP_app, addP_one])
      have hbl := hid (hbnd.out j)
      have hT := hid hT.out
      have j0 : (0 : Int) ≤ j := by omega
      have j1 : (j : Int) < P.length := by omega
      generalize P[j] = x at *
      generalize hL : addP L0 (P.take j) = L at *
      obtain ⟨xk, xt, xa, xn⟩ := x
      dsimp only at f0 f1 f2 f3
      have hcont : Hid (∀ W, Below wr.heap.size wr W → Calls Tryz.prog 34 #[.slice ab L.length cb, .agg #[.int .i64 xk, .int .i64 xt, .int .i64 xa, .int .i64 xn]] W fun e w' => e = .returned (.bool (L.any (eqP ⟨xk, xt, xa, xn⟩))) ∧ Below W.heap.size W w') := hid fun W hbW => by
        obtain ⟨a8, c8, e8, h8⟩ := (hT.out.1.below hbW).in_
        injection e8 with e8 e9 e10
        subst e8 e10
        exact pcontains_any L ⟨xk, xt, xa, xn⟩ ab cb W (h8.widen fun b hb => hb.2)
      generalize hbq : L.any (eqP ⟨xk, xt, xa, xn⟩) = bq at *
      clear hP hL hbq
      go_upto_region 9 with fail
      generalize hW : World.alloc wr _ = W14
      have hh : W14.heap[wr.heap.size]? = some (prO ⟨xk, xt, xa, xn⟩) := by subst hW; exact alloc_at rfl
      have hbW : Hid (Below wr.heap.size wr W14) := by
        subst hW
        exact (Below.refl _ _).alloc (Nat.le_refl _) _
      obtain ⟨hz14, -, g0, g1, g2, g3⟩ := prO_cells hh
      dsimp only at g0 g1 g2 g3
      have Hh := hid hh
      clear hW hh f0 f1 f2 f3
      cases bq
      · have hxs := hid hxs.out
        go_wp2_with (first
          | (go_at_call 34
             with_reducible refine (hcont.out W14 hbW.out).mono ?_
             rintro e w15 ⟨rfl, hb15⟩
             have hBx := hid (hbW.out.trans (hb15.mono hbW.out.size))
             obtain ⟨-, -, g0, g1, g2, g3⟩ := prO_cells ((hb15.block _ hz14).trans Hh.out)
             dsimp only at g0 g1 g2 g3
             clear hb15)
          | (at_builtin
             refine list_prp (base := W0.heap.size) (.tmp 33) (.tmp 35) (.slice ab L.length cb) L ⟨xk, xt, xa, xn⟩ rfl rfl rfl rfl (hT.out.1.below hBx.out) (by have := hbl.out; omega) (Nat.le_trans hT.out.2.1.size hBx.out.size) fun A c8 w8 hO8 hg8 hn8 => ?_
             have hY : Hid (∀ k, k < wr.heap.size → (Value.slice ab L.length cb).ownBlock ≠ some k → w8.heap[k]? = wr.heap[k]?) := hid fun k hk hne =>
               (hg8.block k (Nat.lt_of_lt_of_le hk (hBx.out.alloc hBx.out.size _).size) hne.symm).trans ((hBx.out.alloc hBx.out.size _).block k hk)
             have hX := hid (And.intro hO8 (And.intro (((hT.out.2.1.trans (hBx.out.mono hT.out.2.1.size)).alloc (Nat.le_trans hT.out.2.1.size hBx.out.size) _).grown hg8 (Nat.le_trans (Nat.le_trans hT.out.2.1.size hBx.out.size) ((Below.refl _ _).alloc (Nat.le_refl _) _).size) fun q e => (World.ownsRow.lt hT.out.1 q e).1) (And.intro (Nat.le_trans (hBx.out.alloc hBx.out.size _).size hg8.size) hn8)))
             clear hO8 hg8 hn8)
          | fail)
        go_roundw
        case rel =>
          have hX := hX.out
          have hT := hT.out
          have e1 : addP L0 (P.take (j + 1)) = L ++ [⟨xk, xt, xa, xn⟩] := by rw [hxs.out]; simp
          refine ⟨j + 1, A, c8, by omega, by rw [e1]; simp, by go_num, ?_⟩
          rw [e1, List.length_append]
          refine hid ⟨hX.1, hX.2.1, Nat.le_trans hT.2.2.1 hX.2.2.1, fun b h1 h2 => ?_, fun k e => ?_⟩
          · rw [← hT.2.2.2.1 b h1 h2]
            exact hY.out b (Nat.lt_of_lt_of_le h2 hT.2.2.1) fun e => by rcases hT.2.2.2.2 b e with h | h <;> omega
          · rcases hX.2.2.2 with h | h
            · rw [show (Value.slice A (L.length + [(⟨xk, xt, xa, xn⟩ : Pr)].length) c8).ownBlock = (Value.slice ab L.length cb).ownBlock from h] at e
              exact hT.2.2.2.2 k e
            · exact .inr (Nat.le_trans (Nat.le_trans hT.2.2.1 hBx.out.size) (h k e))
        case measure => simp [intOf]; omega
      · have hxs := hid hxs.out
        go_wp2_with (first
          | (go_at_call 34
             with_reducible refine (hcont.out W14 hbW.out).mono ?_
             rintro e w15 ⟨rfl, hb15⟩
             have hBx := hid (hbW.out.trans (hb15.mono hbW.out.size))
             clear hb15)
          | fail)
        go_roundw
        case rel =>
          have hT := hT.out
          have e1 : addP L0 (P.take (j + 1)) = L := by rw [hxs.out]; simp
          refine ⟨j + 1, ab, cb, by omega, by rw [e1], by go_num, ?_⟩
          rw [e1]
          exact hid ⟨hT.1.below hBx.out, hT.2.1.trans (hBx.out.mono hT.2.1.size), Nat.le_trans hT.2.2.1 hBx.out.size, fun b h1 h2 => (hBx.out.block b (Nat.lt_of_lt_of_le h2 hT.2.2.1)).trans (hT.2.2.2.1 b h1 h2), hT.2.2.2.2⟩
        case measure => simp [intOf]; omega
theorem props_all : ∀ d, PpAt d
  | 0 => fun f _ _ _ h => absurd h (okD_zero f)
  | d + 1 => props_step d (props_all d)
end Go.Proofs.YtogopcejapklgaaGreatDoor
