/- The document's Moves: what may be moved, and may be done. -/
import Derived.Test.YtekmcoflagajkaaGreatDoorDo
namespace Go.Proofs.YtekmcoflagajkaaGreatDoor
open Go.RowKit

theorem mv_info : (Tryz.prog.info? 59).map (fun i => (i.zero, i.size, i.bytes)) = some (some (.agg #[.int .i64 0, .int .i64 0, .int .i64 0]), 3, 24) := by kernel_rfl
/-- A move's cells. -/
def mvC (x : Int × Nat × Int) : List Value := [.int .i64 x.1, .int .i64 x.2.1, .int .i64 x.2.2]
theorem mvC_len (x : Int × Nat × Int) : (mvC x).length = 3 := rfl
theorem mvC_one {k v : Int} {i : Nat} : ∀ u ∈ [Value.int .i64 k, .int .i64 i, .int .i64 v], u.oneCell' = true := by
  intro u hu
  simp at hu
  rcases hu with rfl | rfl | rfl <;> rfl
theorem list_mv {ops : Array Oper} {rest : List Oper} {o : Oper} {a : Act} {w : World} {base : Nat} {Q : Exit → Act → World → Prop} (s x : Operand) (v : Value) (n : Nat) (xs : List Value) (m : Nat) (news : List Value)
    (hgd : o.guard = none) (ho : o.op = .call { callee := .builtin .append, args := #[s, x], argTypes := #[55, 55] })
    (hsv : a.eval s = v) (hown : w.ownsRow base 59 3 v n xs) (hsrc : ∃ A c, a.eval x = .slice A m c ∧ SrcAt w 3 A m news) (h1 : ∀ u ∈ news, u.oneCell' = true) (hb : n + m ≤ 1000000) (hbase : base ≤ w.heap.size)
    (h : ∀ v' w', w'.ownsRow base 59 3 v' (n + m) (xs ++ news) → w.grownBy w' v.ownBlock → (v'.ownBlock = v.ownBlock ∨ v'.ownBlock = some w.heap.size) → wpList Tryz.prog ops Q rest (a.put o.dst v') w') :
    wpList Tryz.prog ops Q (o :: rest) a w := by
  obtain ⟨i0, hi, hz0, hz1, hz2⟩ := info_parts mv_info
  exact list_app hgd s x ho Tryz.underlying55 hi hz0 hz1 hz2 rfl (by decide) v n xs hsv hown m news hsrc h1 (by simp only [maxLen]; omega) (by omega) hbase h

theorem mv_src {w : World} {T : TypeId} {size m b : Nat} {news : List Value} (hb : b = w.heap.size) (hl : news.length = m * size) : SrcAt (w.alloc (.cells news.toArray T)) size (some ⟨b, 0, none⟩) m news := by subst hb; exact src_new hl

/-- Moves lie where a slice leads. -/
def MvIn (w : World) (S : Nat → Prop) (a : Option Addr) (n cap : Nat) (L : List (Int × Nat × Int)) : Prop :=
  n = L.length ∧ Sl w S 3 a L.length cap (fun i => mvC (L[i]?.getD (0, 0, 0)))
/-- What has been collected. -/
structure MvS (W0 wr : World) (L : List (Int × Nat × Int)) (v : Value) : Prop where
  bl : Below W0.heap.size W0 wr
  own : wr.ownsRow W0.heap.size 59 3 v L.length (L.flatMap mvC)
theorem MvS.below {W0 wr w1 : World} {L : List (Int × Nat × Int)} {v : Value} (h : MvS W0 wr L v) (hb : Below wr.heap.size wr w1) : MvS W0 w1 L v :=
  ⟨h.bl.trans (hb.mono h.bl.size), h.own.kept (below_grown hb none) (by cases v.ownBlock <;> simp)⟩
theorem MvS.app {W0 wr w1 : World} {L : List (Int × Nat × Int)} {v v1 : Value} {o : Obj} {k z : Int} {i : Nat} (h : MvS W0 wr L v) (h1 : w1.ownsRow W0.heap.size 59 3 v1 (L.length + 1) (L.flatMap mvC ++ [.int .i64 k, .int .i64 i, .int .i64 z])) (hg : (wr.alloc o).grownBy w1 v.ownBlock) :
    MvS W0 w1 (L ++ [(k, i, z)]) v1 := by
  refine ⟨(h.bl.alloc h.bl.size o).grown hg (by simp; have := h.bl.size; omega) fun n hn => (h.own.lt n hn).1, ?_⟩
  rw [List.length_append, List.flatMap_append]
  simpa [mvC] using h1
theorem MvS.sl {W0 wr : World} {L : List (Int × Nat × Int)} {v : Value} (h : MvS W0 wr L v) : ∃ a c, v = .slice a L.length c := own_at3 h.own
theorem MvS.in_ {W0 wr : World} {L : List (Int × Nat × Int)} {a : Option Addr} {c : Nat} (h : MvS W0 wr L (.slice a L.length c)) : MvIn wr (In_ wr) a L.length c L := by
  have h' := h.own
  obtain ⟨_, h2⟩ := h.own
  rcases h2 with ⟨e, h0⟩ | ⟨g, cap, cur, e, hb, hg, hle, hcm, hsz, htk⟩
  · injection e with e1 e2 e3
    subst e1 e3
    exact ⟨rfl, by omega, Nat.zero_le _, fun hp => absurd hp (by omega)⟩
  · injection e with e1 e2 e3
    subst e1 e3
    refine ⟨rfl, hle, hcm, fun _ => ⟨g, 0, rfl, (Array.getElem?_eq_some_iff.1 hg).1, fun i hi j hj => ?_⟩⟩
    have e := flat_at3 mvC 3 mvC_len L i j hi hj
    have hs := flat_size3 mvC 3 mvC_len L
    have hc := h'.cellAt (i * 3 + j) (by omega)
    rw [Nat.zero_add, hc, e, List.getElem?_eq_getElem hi]
    rfl

/-- The heads are kept while moves are put. -/
theorem IntIn.app {wr w1 : World} {v v1 : Value} {a : Option Addr} {n c : Nat} {l : List Int} {o : Obj} (h : IntIn wr (fun b => b < wr.heap.size ∧ v.ownBlock ≠ some b) a n c l) (hg : (wr.alloc o).grownBy w1 v.ownBlock) (hat : v1.ownBlock = v.ownBlock ∨ v1.ownBlock = some (wr.alloc o).heap.size) :
    IntIn w1 (fun b => b < w1.heap.size ∧ v1.ownBlock ≠ some b) a n c l := by
  have hg' := grown_pre' hg
  refine (h.keep fun b o hb => World.cell?_of_block (w := wr) (a := ⟨b, o, none⟩) (hg'.block b hb.1 (fun e => hb.2 e.symm))).widen fun b hb => ⟨Nat.lt_of_lt_of_le hb.1 hg'.size, fun e => ?_⟩
  rcases hat with h | h
  · exact hb.2 (by rw [← h]; exact e)
  · rw [h] at e
    have := hb.1
    simp at e
    omega

/-- What Moves is handed. -/
structure MvB (W : World) (n : Nat) (vars dom m b : Int) (cv hv mv : Value) (bad : Bool) : Prop where
  lt : n + 3 ≤ W.heap.size
  c0 : W.cell? ⟨n, 0, none⟩ = some (.int .i64 vars)
  c1 : W.cell? ⟨n, 1, none⟩ = some (.int .i64 dom)
  c2 : W.cell? ⟨n, 2, none⟩ = some cv
  m0 : W.cell? ⟨n + 1, 0, none⟩ = some (.int .i64 m)
  m1 : W.cell? ⟨n + 1, 1, none⟩ = some (.int .i64 b)
  s0 : W.cell? ⟨n + 1 + 1, 0, none⟩ = some hv
  s1 : W.cell? ⟨n + 1 + 1, 1, none⟩ = some mv
  s2 : W.cell? ⟨n + 1 + 1, 2, none⟩ = some (.bool bad)
theorem MvB.later {W W' : World} {n : Nat} {vars dom m b : Int} {cv hv mv : Value} {bad : Bool} (h : MvB W n vars dom m b cv hv mv bad) (hb : Below (n + 3) W W') : MvB W' n vars dom m b cv hv mv bad := by
  have hc : ∀ k o, k < n + 3 → W'.cell? ⟨k, o, none⟩ = W.cell? ⟨k, o, none⟩ := fun k o hk => hb.cell (p := ⟨k, o, none⟩) hk
  exact ⟨Nat.le_trans h.lt hb.size, (hc _ _ (by omega)).trans h.c0, (hc _ _ (by omega)).trans h.c1, (hc _ _ (by omega)).trans h.c2, (hc _ _ (by omega)).trans h.m0, (hc _ _ (by omega)).trans h.m1, (hc _ _ (by omega)).trans h.s0, (hc _ _ (by omega)).trans h.s1, (hc _ _ (by omega)).trans h.s2⟩
/-- What Moves leaves: moves that may be made. -/
def MvsPost (w : World) (m b dom : Int) (t : List (List Ins)) (th : List Thr) (mem : List Int) (bad : Bool) (e : Ending) (w' : World) : Prop :=
  ∃ L a c, e = .returned (.slice a L.length c) ∧ MvIn w' (In_ w') a L.length c L ∧ (∀ x ∈ L, MvOk m b dom t th mem bad x.1 x.2.1 x.2.2) ∧ L.length ≤ 200000 ∧ Below w.heap.size w w'
theorem refHeadsL_len (m : Int) (l : List (Int × Int)) : (refHeadsL m l).length ≤ l.length + 1 := by
  unfold refHeadsL
  split
  · exact Nat.le_succ_of_le (hdL_len l)
  · split
    · rw [List.length_take]; omega
    · simp

set_option maxRecDepth 100000 in
set_option maxHeartbeats 16000000 in
theorem moves_any (vars dom m b : Int) (ac : Option Addr) (nc capc : Nat) (t : List (List Ins)) (ah : Option Addr) (nh caph : Nat) (th : List Thr) (am : Option Addr) (nm capm : Nat) (mem : List Int) (bad : Bool) (n : Nat) (w : World)
    (hc : ThsIn w (In_ w) ac nc capc t) (hh : ThrIn w (In_ w) ah nh caph th) (hm : IntIn w (In_ w) am nm capm mem) (hf : fitsL vars dom t m b th mem = true) (hn : n ≤ 999) (hbuf : ∀ x ∈ th, x.buf.length ≤ n) :
    Calls Tryz.prog 19 #[.agg #[.int .i64 vars, .int .i64 dom, .slice ac nc capc], .agg #[.int .i64 m, .int .i64 b], .agg #[.slice ah nh caph, .slice am nm capm, .bool bad]] w (MvsPost w m b dom t th mem bad) := by
  have hn1 := hc.1
  have hn2 := hh.1
  have hn3 := hm.1
  subst hn1 hn2 hn3
  have hcap2 := hh.le
  have hmx2 := hh.mx
  unfold maxLen at hmx2
  have htl : t.length ≤ 100 ∧ th.length = t.length := by
    obtain ⟨f1, f2, f3, -, -⟩ := fits_open hf
    unfold mayL at f1
    simp only [Bool.and_eq_true, decide_eq_true_eq] at f1
    have h2 := f1.1.1.1.1
    unfold rightL at h2
    simp only [Bool.and_eq_true, decide_eq_true_eq] at h2
    omega
  obtain ⟨htl, htn⟩ := htl
  have htl2 : th.length ≤ 100 := by omega
  replace htn := hid htn
  obtain ⟨W0, hW⟩ : ∃ W0, W0 = ((w.alloc (.cells #[.int .i64 vars, .int .i64 dom, .slice ac t.length capc] 25)).alloc (.cells #[.int .i64 m, .int .i64 b] 30)).alloc (.cells #[.slice ah th.length caph, .slice am mem.length capm, .bool bad] 34) := ⟨_, rfl⟩
  have hB : Below w.heap.size w W0 := by subst hW; exact (((Below.refl _ _).alloc (Nat.le_refl _) _).alloc (by simp) _).alloc (by simp; omega) _
  have zS : W0.heap.size = w.heap.size + 3 := by subst hW; simp
  have HS0 : MvB W0 w.heap.size vars dom m b (.slice ac t.length capc) (.slice ah th.length caph) (.slice am mem.length capm) bad := by
    subst hW
    refine ⟨by simp, ?_, ?_, ?_, ?_, ?_, ?_, ?_, ?_⟩ <;> go_simp
  have c0 := HS0.c0
  have c1 := HS0.c1
  have c2 := HS0.c2
  have m0 := HS0.m0
  have m1 := HS0.m1
  have s0 := HS0.s0
  have s1 := HS0.s1
  have s2 := HS0.s2
  have Hc := hid ((Kp.of hB).ths hc)
  have Hh := hid ((Kp.of hB).thr hh)
  have Hm := hid ((Kp.of hB).ints hm)
  have hfit := hid (refFits_any vars dom m b ac t.length capc t ah th.length caph th am mem.length capm mem bad W0 Hc.out Hh.out Hm.out (fun x hx => by have := hbuf x hx; omega))
  have hmay := hid hf
  rw [hf] at hfit
  have HB := hid hB
  have hWx := hid hW
  have HS0 := hid HS0
  have ZS := hid zS
  have Hbuf := hid hbuf
  clear hW hB hh hm hc hf zS hbuf
  go_enter Tryz.func19, Tryz.ntmps19
  go_wp2_with fail
  rw [← hWx.out]
  refine hfit.out.mono ?_
  rintro e w1 ⟨rfl, hb1⟩
  have HM1 : Hid (MvS W0 w1 [] (.slice none 0 0)) := ⟨hb1, World.ownsRow_nil _ _ _ _⟩
  clear hfit hb1 hWx c0 c1 c2 m0 m1 s0 s1 s2
  go_wp2_with fail
  go_loopw [7, 8] (fun v i wr => ∃ (k : Nat) (L : List (Int × Nat × Int)) (a : Option Addr) (c : Nat), k ≤ th.length ∧ i = .int .i64 k ∧ v = .slice a L.length c ∧ Hid (MvS W0 wr L (.slice a L.length c)) ∧ Hid (L.length ≤ 1001 * k) ∧ Hid (∀ x ∈ L, MvOk m b dom t th mem bad x.1 x.2.1 x.2.2)) (fun _ i _ => th.length - (intOf i).toNat)
  case atStart => exact ⟨0, [], none, 0, Nat.zero_le _, rfl, rfl, HM1, by simp [Hid], fun x hx => by cases hx⟩
  case round =>
    obtain ⟨k, L, a1, c1, hk, rfl, rfl, hS, hlen, hok⟩ := hrel
    have hKr : Kp W0 wr := Kp.of hS.out.bl
    have HSr := hid (HS0.out.later (by rw [← ZS.out]; exact hS.out.bl))
    have c0 := HSr.out.c0
    have c1x := HSr.out.c1
    have c2 := HSr.out.c2
    have m0 := HSr.out.m0
    have m1 := HSr.out.m1
    have s0 := HSr.out.s0
    have s1 := HSr.out.s1
    have s2 := HSr.out.s2
    have ltr := HSr.out.lt
    by_cases hkl : k < th.length
    · have hkt : k < t.length := by have := htn.out; omega
      have hstep := hid (step_any vars dom m b ac t.length capc t ah th.length caph th am mem.length capm mem bad k wr (hKr.ths Hc.out) (hKr.thr Hh.out) (hKr.ints Hm.out) hmay.out (fun x hx => by have := Hbuf.out x hx; omega) hkl hkt)
      have hst : Hid ((stepL m b dom t[k] th[k] mem bad).2 = true → MvOk m b dom t th mem bad 1 k 0) := hid (fun h => ⟨hkl, hkt, .inl ⟨rfl, rfl, h⟩⟩)
      have hfl : Hid (∀ v ∈ refHeadsL m th[k].buf, MvOk m b dom t th mem bad 2 k v) := hid (fun v h => ⟨hkl, hkt, .inr ⟨rfl, h⟩⟩)
      have k0 : (0 : Int) ≤ k := by omega
      have k1 : (k : Int) < th.length := by omega
      generalize stepL m b dom t[k] th[k] mem bad = R at *
      obtain ⟨X, ok⟩ := R
      simp only at hst
      clear hKr
      go_wp2_with fail
      refine hstep.out.mono ?_
      rintro e w2 ⟨V, rfl, hb2, -, a7, n7, c7, a8, n8, c8, bd, rfl⟩
      simp only
      obtain ⟨w3, hw3⟩ : ∃ w3, w3 = w2.alloc (.cells #[.slice a7 n7 c7, .slice a8 n8 c8, .bool bd] 34) := ⟨_, rfl⟩
      have hS3 : Hid (MvS W0 w3 L (.slice a1 L.length c1)) := hid (by rw [hw3]; exact (hS.out.below hb2).below ((Below.refl _ _).alloc (Nat.le_refl _) _))
      have HS3 := hid (HS0.out.later (by rw [← ZS.out]; exact hS3.out.bl))
      have hW3 := hid hw3
      clear hstep hb2 hw3 c0 c1x c2 m0 m1 s0 s1 s2 hS
      cases ok
      case' false =>
        go_wp2_with fail
        rw [← hW3.out]
        have hly : Hid (L.length ≤ 1001 * k + 1) := Nat.le_succ_of_le hlen.out
        clear hW3 hlen hst
        obtain ⟨w4, rfl⟩ : ∃ W : World, W = w3 := ⟨_, rfl⟩
        obtain ⟨L2, rfl⟩ : ∃ X : List (Int × Nat × Int), X = L := ⟨_, rfl⟩
        obtain ⟨a2, rfl⟩ : ∃ X : Option Addr, X = a1 := ⟨_, rfl⟩
        obtain ⟨c2, rfl⟩ : ∃ X : Nat, X = c1 := ⟨_, rfl⟩
        have hSy := hS3
        have hoky := hok
        clear hS3 hok
      case' true =>
        have hS4 : Hid (MvS W0 (w2.alloc (.cells #[.slice a7 n7 c7, .slice a8 n8 c8, .bool bd] 34)) L (.slice a1 L.length c1)) := hid (by rw [← hW3.out]; exact hS3.out)
        go_wp2_with (first
          | (at_builtin
             refine list_mv (base := W0.heap.size) (.tmp 34) (.tmp 37) (.slice a1 L.length c1) L.length (L.flatMap mvC) 1 [.int .i64 1, .int .i64 k, .int .i64 0] ?_ ?_ ?_ ?_ ?_ ?_ ?_ ?_ ?_
             (focus rfl); (focus rfl); (focus rfl); (focus exact hS4.out.own.alloc _); (focus (first | exact ⟨_, _, rfl, src_new rfl⟩ | exact ⟨_, _, rfl, mv_src (by simp) rfl⟩)); (focus exact mvC_one); (focus (have := hlen.out; omega)); (focus (have := hS4.out.bl.size; simp at this ⊢; omega))
             intro v4 w4 hown4 hg4 hat4
             have hSy := hid (hS4.out.app hown4 hg4)
             have hly : Hid ((L ++ [((1 : Int), k, (0 : Int))]).length ≤ 1001 * k + 1) := by have := hlen.out; show _ ≤ _; simp; omega
             have hoky : Hid (∀ x ∈ L ++ [((1 : Int), k, (0 : Int))], MvOk m b dom t th mem bad x.1 x.2.1 x.2.2) := fun x hx => by
               rcases List.mem_append.1 hx with hx | hx
               · exact hok.out x hx
               · rw [List.mem_singleton] at hx; subst hx; exact hst.out rfl
             generalize L ++ [((1 : Int), k, (0 : Int))] = L2 at hSy hly hoky
             obtain ⟨a2, c2, rfl⟩ := hSy.out.sl
             clear hown4 hg4 hat4 hS4 hS3 hW3 hok hlen hst)
          | fail)
      all_goals
        clear HSr HS3
        have HS4 := hid (HS0.out.later (by rw [← ZS.out]; exact hSy.out.bl))
        have hK4 : Kp W0 w4 := Kp.of hSy.out.bl
        obtain ⟨bt, ot, ar, kr, rfl, hbt, ⟨t0, t1, t2⟩, ⟨t3, t4, t5⟩, hen⟩ := (hK4.thr Hh.out).at_ k hkl
        have hbl : th[k].buf.length ≤ n := Hbuf.out _ (List.getElem_mem hkl)
        have hbt2 : bt < w4.heap.size := hbt
        have hheads : Hid (∀ W, Below w4.heap.size w4 W → Calls Tryz.prog 37 #[.slice ar th[k].buf.length kr, .int .i64 m] W fun e w' => ∃ a cap, e = .returned (.slice a (refHeadsL m th[k].buf).length cap) ∧ IntIn w' (Nw w4 w') a (refHeadsL m th[k].buf).length cap (refHeadsL m th[k].buf) ∧ Below w4.heap.size w4 w') := hid (fun W hW =>
          (refHeads_any ar th[k].buf.length kr th[k].buf m W ((Kp.of hW).en hen) (by omega)).mono fun e w' h => by
            obtain ⟨a, cap, h1, h2, h3⟩ := h
            exact ⟨a, cap, h1, h2.widen fun b hb => ⟨Nat.le_trans hW.size hb.1, hb.2⟩, hW.trans (h3.mono hW.size)⟩)
        have hHl : Hid ((refHeadsL m th[k].buf).length ≤ 1000) := by have := refHeadsL_len m th[k].buf; show _ ≤ _; omega
        generalize refHeadsL m th[k].buf = H at *
        have m0 := HS4.out.m0
        have s0 := HS4.out.s0
        have lt4 := HS4.out.lt
        have ln1 : w.heap.size + 1 < w4.heap.size := by omega
        have ln2 : w.heap.size + 1 + 1 < w4.heap.size := by omega
        clear hK4 hen hbt t0 t1 t2 t3 t4
        go_cut [11] from 39 to 47 (fun u wx => ∃ a cap, u = .slice a H.length cap ∧ IntIn wx (Nw w4 wx) a H.length cap H ∧ Below w4.heap.size w4 wx)
        case first =>
          go_region_law (first
            | (go_simp; go_at_call 37; (with_reducible refine (hheads.out _ (Below.refl _ _).drew).mono ?_); rintro e w5 ⟨a2, c2', rfl, hH2, hb2⟩)
            | fail)
          all_goals
            go_wp2_with fail
            go_meet
            case rel => exact ⟨a2, c2', rfl, hH2, hb2⟩
        case rest =>
        obtain ⟨ah2, cap2, rfl, hH, hb5⟩ := hcut
        obtain ⟨w5, rfl⟩ : ∃ W : World, W = wc := ⟨_, rfl⟩
        have hS5 := hid (hSy.out.below hb5)
        have hH5 : Hid (IntIn w5 (fun b => b < w5.heap.size ∧ (Value.slice a2 L2.length c2).ownBlock ≠ some b) ah2 H.length cap2 H) := hid (hH.widen fun b hb => ⟨hb.2, fun e => by have := (hSy.out.own.lt b e).2; have := hb.1; omega⟩)
        clear hb5 hH hheads m0 s0 t5 hSy HS4 lt4 ln1 ln2 hbt2
        go_wp2_with fail
        go_loopw [7, 12] (fun v i wr => ∃ (q : Nat) (L3 : List (Int × Nat × Int)) (a3 : Option Addr) (c3 : Nat), q ≤ H.length ∧ i = .int .i64 q ∧ v = .slice a3 L3.length c3 ∧ Hid (MvS W0 wr L3 (.slice a3 L3.length c3)) ∧ Hid (L3.length ≤ 1001 * k + 1 + q) ∧ Hid (∀ x ∈ L3, MvOk m b dom t th mem bad x.1 x.2.1 x.2.2) ∧
          Hid (IntIn wr (fun b => b < wr.heap.size ∧ (Value.slice a3 L3.length c3).ownBlock ≠ some b) ah2 H.length cap2 H)) (fun _ i _ => H.length - (intOf i).toNat)
        case atStart => exact ⟨0, L2, a2, c2, Nat.zero_le _, rfl, rfl, hS5, hly, hoky, hH5⟩
        case round =>
          clear hS5 hly hoky hH5
          obtain ⟨q, L3, a3, c3, hq, rfl, rfl, hS, hlen, hok, hH⟩ := hrel
          by_cases hqH : q < H.length
          · obtain ⟨bh, oh, rfl, ⟨hbh, -⟩, hch⟩ := hH.out.at_ q hqH
            have q0 : (0 : Int) ≤ q := by omega
            have q1 : (q : Int) < H.length := by omega
            have hvok : Hid (MvOk m b dom t th mem bad 2 k H[q]) := hfl.out _ (List.getElem_mem hqH)
            have hcl := hH.out.2.le
            have hcm := hH.out.2.mx
            unfold maxLen at hcm
            generalize H[q] = hd at *
            go_wp2_with (first
              | (at_builtin
                 refine list_mv (base := W0.heap.size) (.tmp 54) (.tmp 61) (.slice a3 L3.length c3) L3.length (L3.flatMap mvC) 1 [.int .i64 2, .int .i64 k, .int .i64 hd] ?_ ?_ ?_ ?_ ?_ ?_ ?_ ?_ ?_
                 (focus rfl); (focus rfl); (focus rfl); (focus exact hS.out.own.alloc _); (focus (first | exact ⟨_, _, rfl, src_new rfl⟩ | exact ⟨_, _, rfl, mv_src (by simp) rfl⟩)); (focus exact mvC_one); (focus (have := hlen.out; have := hHl.out; omega)); (focus (have := hS.out.bl.size; simp at this ⊢; omega))
                 intro v6 w6 hown6 hg6 hat6
                 have hS6 := hid (hS.out.app hown6 hg6)
                 have hl6 : Hid ((L3 ++ [((2 : Int), k, hd)]).length ≤ 1001 * k + 1 + (q + 1)) := by have := hlen.out; show _ ≤ _; simp; omega
                 have hok6 : Hid (∀ x ∈ L3 ++ [((2 : Int), k, hd)], MvOk m b dom t th mem bad x.1 x.2.1 x.2.2) := fun x hx => by
                   rcases List.mem_append.1 hx with hx | hx
                   · exact hok.out x hx
                   · rw [List.mem_singleton] at hx; subst hx; exact hvok.out
                 have hH6 := hid (hH.out.app hg6 hat6)
                 generalize L3 ++ [((2 : Int), k, hd)] = L6 at hS6 hl6 hok6
                 obtain ⟨a6, c6, rfl⟩ := hS6.out.sl
                 clear hown6 hg6 hat6 hS hok hlen hH hch)
              | fail)
            go_roundw
            case rel => exact ⟨q + 1, L6, a6, c6, by omega, by simp, rfl, hS6, hl6, hok6, hH6⟩
            case measure => simp [intOf]; omega
          · obtain rfl : q = H.length := by omega
            clear hH
            go_wp2_with fail
            go_roundw
            case rel => exact ⟨k + 1, L3, a3, c3, by omega, by simp, rfl, hS, by have := hlen.out; have := hHl.out; show _ ≤ _; omega, hok⟩
            case measure => simp [intOf]; omega
    · have hpo : Hid (MvsPost w m b dom t th mem bad (.returned (.slice a1 L.length c1)) wr) := hid ⟨L, a1, c1, rfl, hS.out.in_, hok.out, by have := hlen.out; omega, HB.out.trans (hS.out.bl.mono HB.out.size)⟩
      clear hS hlen hok hKr
      go_wp2_with fail
      go_ret
      exact hpo.out
end Go.Proofs.YtekmcoflagajkaaGreatDoor
