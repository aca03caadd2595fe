/- States that are come to by moves. -/
import Derived.Test.YtekmcoflagajkaaGreatDoorMvs
import Derived.Test.YtekmcoflagajkaaGreatDoorBunQ
namespace Go.Proofs.YtekmcoflagajkaaGreatDoor
open Go.RowKit

/-- New blocks. -/
theorem StW.inN {w : World} {n0 B : Nat} {va vm : Value} {th : List Thr} {mem : List Int} (h : StW w n0 B va vm th mem) :
    ∃ a ca b cb, va = .slice a th.length ca ∧ vm = .slice b mem.length cb ∧ ThrIn w (fun k => n0 ≤ k ∧ k < w.heap.size) a th.length ca th ∧ IntIn w (fun k => n0 ≤ k ∧ k < w.heap.size) b mem.length cb mem := by
  obtain ⟨a, ca, e1, h1⟩ := h.ht.in_
  obtain ⟨b, cb, e2, h2⟩ := IntIn.of_own h.hm.2
  exact ⟨a, ca, b, cb, e1, e2, h1.widen fun k hk => ⟨Nat.le_trans h.le hk.1, hk.2⟩, h2⟩
/-- A state that was come to, in its box. -/
structure WkS (W0 wr : World) (sb : Nat) (vars dom m b : Int) (t : List (List Ins)) (q : Nat) (a1 : Option Addr) (c1 : Nat) (th : List Thr) (a2 : Option Addr) (c2 : Nat) (mem : List Int) (bad : Bool) : Prop where
  bl : Below W0.heap.size W0 wr
  sb_ : W0.heap.size ≤ sb
  box : SBox wr sb (.slice a1 th.length c1) (.slice a2 mem.length c2) bad
  hh : ThrIn wr (Nw W0 wr) a1 th.length c1 th
  hm : IntIn wr (Nw W0 wr) a2 mem.length c2 mem
  fit : fitsL vars dom t m b th mem = true
  buf : ∀ x ∈ th, x.buf.length ≤ q
theorem WkS.below {W0 wr w' : World} {sb : Nat} {vars dom m b : Int} {t : List (List Ins)} {q : Nat} {a1 : Option Addr} {c1 : Nat} {th : List Thr} {a2 : Option Addr} {c2 : Nat} {mem : List Int} {bad : Bool} (h : WkS W0 wr sb vars dom m b t q a1 c1 th a2 c2 mem bad) (hb : Below wr.heap.size wr w') :
    WkS W0 w' sb vars dom m b t q a1 c1 th a2 c2 mem bad :=
  ⟨h.bl.trans (hb.mono h.bl.size), h.sb_, h.box.block hb.size (hb.block _ h.box.lt), (h.hh.keep fun k o hk => hb.cell (p := ⟨k, o, none⟩) hk.2).widen fun _k hk => ⟨hk.1, Nat.lt_of_lt_of_le hk.2 hb.size⟩,
    (h.hm.keep fun k o hk => hb.cell (p := ⟨k, o, none⟩) hk.2).widen fun _k hk => ⟨hk.1, Nat.lt_of_lt_of_le hk.2 hb.size⟩, h.fit, h.buf⟩
theorem WkS.more {W0 wr : World} {sb : Nat} {vars dom m b : Int} {t : List (List Ins)} {q : Nat} {a1 : Option Addr} {c1 : Nat} {th : List Thr} {a2 : Option Addr} {c2 : Nat} {mem : List Int} {bad : Bool} (h : WkS W0 wr sb vars dom m b t q a1 c1 th a2 c2 mem bad) :
    WkS W0 wr sb vars dom m b t (q + 1) a1 c1 th a2 c2 mem bad := ⟨h.bl, h.sb_, h.box, h.hh, h.hm, h.fit, fun x hx => Nat.le_succ_of_le (h.buf x hx)⟩
/-- What Do answered is stored. -/
theorem WkS.put {W0 wr w' W3 : World} {sb : Nat} {vars dom m b : Int} {t : List (List Ins)} {q B : Nat} {a1 : Option Addr} {c1 : Nat} {th th' : List Thr} {a2 : Option Addr} {c2 : Nat} {mem mem' : List Int} {bad bad' : Bool} {va vm : Value}
    (h : WkS W0 wr sb vars dom m b t q a1 c1 th a2 c2 mem bad) (hb : Below wr.heap.size wr w') (hst : StW w' wr.heap.size B va vm th' mem') (hf : fitsL vars dom t m b th' mem' = true) (hbuf : ∀ x ∈ th', x.buf.length ≤ q + 1)
    (e3 : W3 = ((w'.setCell ⟨sb, 0, none⟩ va).setCell ⟨sb, 1, none⟩ vm).setCell ⟨sb, 2, none⟩ (.bool bad')) :
    ∃ a1' c1' a2' c2', va = .slice a1' th'.length c1' ∧ vm = .slice a2' mem'.length c2' ∧ WkS W0 W3 sb vars dom m b t (q + 1) a1' c1' th' a2' c2' mem' bad' := by
  have h1 := h.below hb
  have hl := h.box.lt
  have hz := hb.size
  have hst3 : StW W3 wr.heap.size B va vm th' mem' := by
    rw [e3]
    exact hst.grown (grown_trans (grown_trans (grown_set _ _ _ _) (grown_set _ _ _ _)) (grown_set _ _ _ _)) hl
  obtain ⟨a, ca, b', cb, rfl, rfl, hh, hm⟩ := hst3.inN
  refine ⟨_, _, _, _, rfl, rfl, ?_, h.sb_, ?_, hh.widen fun k hk => ⟨by have := h.bl.size; have := hk.1; omega, hk.2⟩, hm.widen fun k hk => ⟨by have := h.bl.size; have := hk.1; omega, hk.2⟩, hf, hbuf⟩
  · rw [e3]; exact three_below h1.bl h.sb_
  · obtain ⟨W4, e4, z0, z1, z2⟩ := three (a := .slice a th'.length ca) (b := .slice b' mem'.length cb) (c := .bool bad') h1.box.c0 h1.box.c1 h1.box.c2
    rw [← e3] at e4
    subst e4
    refine ⟨by rw [e3, three_size]; exact h1.box.lt, z0, z1, z2, fun o => ?_⟩
    rw [e3]
    exact frozen_set (frozen_set (frozen_set (h1.box.f0 o)))
/-- What Walk leaves. -/
def WalkPost (w : World) (vars dom m b : Int) (t : List (List Ins)) (e : Ending) (w' : World) : Prop :=
  ∃ a1 c1 th a2 c2 mem bad, e = .returned (.agg #[.slice a1 th.length c1, .slice a2 mem.length c2, .bool bad]) ∧ ThrIn w' (Nw w w') a1 th.length c1 th ∧ IntIn w' (Nw w w') a2 mem.length c2 mem ∧ fitsL vars dom t m b th mem = true ∧ (∀ x ∈ th, x.buf.length ≤ 30) ∧ Below w.heap.size w w'
theorem WkS.fin {w W0 wr : World} {sb : Nat} {vars dom m b : Int} {t : List (List Ins)} {q : Nat} {a1 : Option Addr} {c1 : Nat} {th : List Thr} {a2 : Option Addr} {c2 : Nat} {mem : List Int} {bad : Bool} (h : WkS W0 wr sb vars dom m b t q a1 c1 th a2 c2 mem bad) (hq : q ≤ 30) (hB : Below w.heap.size w W0) (zS : W0.heap.size = w.heap.size + 3)
    {W3 : World} (e3 : W3 = ((wr.setCell ⟨w.heap.size + 1 + 1, 0, none⟩ (.slice a1 th.length c1)).setCell ⟨w.heap.size + 1 + 1, 1, none⟩ (.slice a2 mem.length c2)).setCell ⟨w.heap.size + 1 + 1, 2, none⟩ (.bool bad)) :
    WalkPost w vars dom m b t (.returned (.agg #[.slice a1 th.length c1, .slice a2 mem.length c2, .bool bad])) W3 := by
  subst e3
  refine ⟨_, _, th, _, _, mem, bad, rfl, (h.hh.keep fun k o hk => three_cell k o (by have := hk.1; omega)).widen fun k hk => ?_, (h.hm.keep fun k o hk => three_cell k o (by have := hk.1; omega)).widen fun k hk => ?_, h.fit, fun x hx => Nat.le_trans (h.buf x hx) hq, three_below (hB.trans (h.bl.mono hB.size)) (by omega)⟩
  · exact ⟨by have := hk.1; have := hB.size; omega, by show k < _; rw [three_size]; exact hk.2⟩
  · exact ⟨by have := hk.1; have := hB.size; omega, by show k < _; rw [three_size]; exact hk.2⟩
/-- What Walk is handed. -/
structure WkB (W : World) (n : Nat) (vars dom m b : Int) (cv : Value) : Prop where
  lt : n + 3 ≤ W.heap.size
  c0 : W.cell? ⟨n, 0, none⟩ = some (.int .i64 vars)
  c1 : W.cell? ⟨n, 1, none⟩ = some (.int .i64 dom)
  c2 : W.cell? ⟨n, 2, none⟩ = some cv
  m0 : W.cell? ⟨n + 1, 0, none⟩ = some (.int .i64 m)
  m1 : W.cell? ⟨n + 1, 1, none⟩ = some (.int .i64 b)
  r0 : W.cell? ⟨n + 1 + 1, 0, none⟩ = some (.slice none 0 0)
  r1 : W.cell? ⟨n + 1 + 1, 1, none⟩ = some (.slice none 0 0)
  r2 : W.cell? ⟨n + 1 + 1, 2, none⟩ = some (.bool false)
  rf : ∀ o, W.frozen? ⟨n + 1 + 1, o, none⟩ = false
theorem WkB.later {W W' : World} {n : Nat} {vars dom m b : Int} {cv : Value} (h : WkB W n vars dom m b cv) (hb : Below (n + 3) W W') : WkB W' n vars dom m b cv := by
  have hc : ∀ k o, k < n + 3 → W'.cell? ⟨k, o, none⟩ = W.cell? ⟨k, o, none⟩ := fun k o hk => hb.cell (p := ⟨k, o, none⟩) hk
  exact ⟨Nat.le_trans h.lt hb.size, (hc _ _ (by omega)).trans h.c0, (hc _ _ (by omega)).trans h.c1, (hc _ _ (by omega)).trans h.c2, (hc _ _ (by omega)).trans h.m0, (hc _ _ (by omega)).trans h.m1, (hc _ _ (by omega)).trans h.r0, (hc _ _ (by omega)).trans h.r1, (hc _ _ (by omega)).trans h.r2, fun o => (hb.frozen (p := ⟨_, o, none⟩) (by show n + 1 + 1 < n + 3; omega)).trans (h.rf o)⟩

set_option maxRecDepth 100000 in
set_option maxHeartbeats 16000000 in
theorem walk_any (vars dom m b : Int) (ac : Option Addr) (nc capc : Nat) (t : List (List Ins)) (la : Option Addr) (ln lc : Nat) (w : World)
    (hc : ThsIn w (In_ w) ac nc capc t) (hl : U8s w (In_ w) la ln lc) (hmay : mayL vars dom t m b = true) :
    Calls Tryz.prog 9 #[.agg #[.int .i64 vars, .int .i64 dom, .slice ac nc capc], .agg #[.int .i64 m, .int .i64 b], .slice la ln lc] w (WalkPost w vars dom m b t) := by
  have hn1 := hc.1
  subst hn1
  have hlc := hl.1
  have hlm := hl.2.1
  unfold maxLen at hlm
  have hright : rightL vars dom t = true := by
    have h1 := hmay
    unfold mayL at h1
    simp only [Bool.and_eq_true, decide_eq_true_eq] at h1
    exact h1.1.1.1.1
  have hsf := hid (start_fits hmay)
  obtain ⟨W0, hW⟩ : ∃ W0, W0 = ((w.alloc (.cells #[.int .i64 vars, .int .i64 dom, .slice ac t.length capc] 25)).alloc (.cells #[.int .i64 m, .int .i64 b] 30)).alloc (.cells #[.slice none 0 0, .slice none 0 0, .bool false] 34) := ⟨_, rfl⟩
  have hB : Below w.heap.size w W0 := by subst hW; exact (((Below.refl _ _).alloc (Nat.le_refl _) _).alloc (by simp) _).alloc (by simp; omega) _
  have zS : W0.heap.size = w.heap.size + 3 := by subst hW; simp
  have HS0 : WkB W0 w.heap.size vars dom m b (.slice ac t.length capc) := by
    subst hW
    refine ⟨by simp, ?_, ?_, ?_, ?_, ?_, ?_, ?_, ?_, fun o => ?_⟩ <;> go_simp
  have c0 := HS0.c0
  have c1 := HS0.c1
  have c2 := HS0.c2
  have Hc := hid ((Kp.of hB).ths hc)
  have Hl : Hid (U8s W0 (In_ w) la ln lc) := hid (hl.keep fun b o hb => hB.cell (p := ⟨b, o, none⟩) hb)
  have hst := hid (start_any vars dom ac t.length capc t W0 Hc.out)
  rw [hright] at hst
  have hlt : (List.replicate t.length Thr.zero).length = t.length := List.length_replicate
  unfold startT startM at hst
  simp only [if_true] at hst
  have hz0 : ∀ x ∈ List.replicate t.length Thr.zero, x.buf.length ≤ 0 := fun x hx => by
    rw [(List.mem_replicate.1 hx).2]
    exact Nat.le_refl _
  generalize List.replicate t.length Thr.zero = th0 at *
  generalize List.replicate vars.toNat (0 : Int) = mem0 at *
  have HB := hid hB
  have hWx := hid hW
  have HS0 := hid HS0
  have ZS := hid zS
  have Hz0 := hid hz0
  clear hW hB hc hl zS hmay hright hlt hz0
  go_enter Tryz.func9, Tryz.ntmps9
  go_wp2_with fail
  rw [← hWx.out]
  refine hst.out.mono ?_
  rintro e w1 ⟨ah, ch, am, cm, rfl, hh1, hm1, hb1⟩
  have HW2 : Hid (WkS W0 (w1.alloc (.cells #[.slice ah th0.length ch, .slice am mem0.length cm, .bool false] 34)) w1.heap.size vars dom m b t 0 ah ch th0 am cm mem0 false) := hid (by
    have hcx := heap_alloc_new w1 (.cells #[.slice ah th0.length ch, .slice am mem0.length cm, .bool false] 34)
    have hbx : Below w1.heap.size w1 (w1.alloc (.cells #[.slice ah th0.length ch, .slice am mem0.length cm, .bool false] 34)) := (Below.refl _ _).alloc (Nat.le_refl _) _
    exact ⟨hb1.alloc hb1.size _, hb1.size, ⟨by simp, cell_of_heap hcx, cell_of_heap hcx, cell_of_heap hcx, fun o => unfrozen hcx⟩,
      (hh1.keep fun k o hk => hbx.cell (p := ⟨k, o, none⟩) hk.2).widen fun k hk => ⟨hk.1, Nat.lt_of_lt_of_le hk.2 hbx.size⟩, (hm1.keep fun k o hk => hbx.cell (p := ⟨k, o, none⟩) hk.2).widen fun k hk => ⟨hk.1, Nat.lt_of_lt_of_le hk.2 hbx.size⟩, hsf.out, Hz0.out⟩)
  have hsb : w.heap.size + 3 ≤ w1.heap.size := by have := hb1.size; have := ZS.out; omega
  clear hst hb1 hh1 hm1 hWx c0 c1 c2 hsf Hz0
  go_wp2_with fail
  generalize World.alloc w1 _ = w2 at *
  generalize w1.heap.size = sb at *
  clear w1
  go_loopw [8] (fun i wr => ∃ (q : Nat) (a1 : Option Addr) (c1 : Nat) (th : List Thr) (a2 : Option Addr) (c2 : Nat) (mem : List Int) (bad : Bool), q ≤ ln ∧ q ≤ 30 ∧ i = .int .i64 q ∧ Hid (WkS W0 wr sb vars dom m b t q a1 c1 th a2 c2 mem bad)) (fun i _ => ln - (intOf i).toNat)
  case atStart => exact ⟨0, ah, ch, th0, am, cm, mem0, false, Nat.zero_le _, Nat.zero_le _, rfl, HW2⟩
  case round =>
    clear HW2
    obtain ⟨q, a1, c1, th, a2, c2, mem, bad, hq1, hq2, rfl, hS⟩ := hrel
    have HSr := hid (HS0.out.later (by rw [← ZS.out]; exact hS.out.bl))
    have e0 := HSr.out.c0
    have e1 := HSr.out.c1
    have e2 := HSr.out.c2
    have m0 := HSr.out.m0
    have m1 := HSr.out.m1
    have s0 := hS.out.box.c0
    have s1 := hS.out.box.c1
    have s2 := hS.out.box.c2
    have lsb := hS.out.box.lt
    have lt3 := HSr.out.lt
    have r0 := HSr.out.r0
    have r1 := HSr.out.r1
    have r2 := HSr.out.r2
    have rf := HSr.out.rf
    by_cases hgo : q < ln ∧ q < 30
    · obtain ⟨g1, g2⟩ := hgo
      have q0 : (q : Int) < ln := by omega
      have q1 : (q : Int) < 30 := by omega
      have q2 : (0 : Int) ≤ q := by omega
      have hKr : Kp W0 wr := Kp.of hS.out.bl
      have hmv := hid (moves_any vars dom m b ac t.length capc t a1 th.length c1 th a2 mem.length c2 mem bad q wr (hKr.ths Hc.out) (hS.out.hh.widen fun k hk => hk.2) (hS.out.hm.widen fun k hk => hk.2) hS.out.fit (by omega) hS.out.buf)
      clear r0 r1 r2 rf hKr
      go_wp2_with fail
      refine hmv.out.mono ?_
      rintro e w3 ⟨L, a3, c3, rfl, hL, hLok, hLl, hb3⟩
      have hS3 := hid (hS.out.below hb3)
      clear hmv hb3 hS HSr e0 e1 e2 m0 m1 s0 s1 s2 lsb lt3
      have HSr := hid (HS0.out.later (by rw [← ZS.out]; exact hS3.out.bl))
      have s0 := hS3.out.box.c0
      have s1 := hS3.out.box.c1
      have s2 := hS3.out.box.c2
      have lsb := hS3.out.box.lt
      have lt3 := HSr.out.lt
      have lz2 : w.heap.size + 1 + 1 < w3.heap.size := by omega
      rcases L with _ | ⟨x0, L⟩
      · have r0 := HSr.out.r0
        have r1 := HSr.out.r1
        have r2 := HSr.out.r2
        have rf := HSr.out.rf
        obtain ⟨W3, e3, z0, z1, z2⟩ := three (a := .slice a1 th.length c1) (b := .slice a2 mem.length c2) (c := .bool bad) r0 r1 r2
        have hfin := hid (hS3.out.fin (by omega) HB.out ZS.out e3)
        have E3 := hid e3
        clear e3 hLok hL hLl
        go_wp2_with fail
        rw [← E3.out]
        refine bodyPost_ret ?_ rfl hfin.out
        simp [results, Tryz.results9, go_sem, z0, z1, z2]
      · have hL0 : 0 < (x0 :: L).length := by simp
        generalize x0 :: L = L' at *
        have hLne : ((L'.length : Int) == 0) = false := beq_eq_false_iff_ne.2 (by omega)
        have hLz : (0 : Int) < L'.length := by omega
        obtain ⟨bl, ol, u, rfl, hbl, hu, hcu⟩ := Hl.out.2.2 q g1
        have e0 := HSr.out.c0
        have e1 := HSr.out.c1
        have e2 := HSr.out.c2
        have m0 := HSr.out.m0
        have m1 := HSr.out.m1
        have hcu3 : w3.cell? ⟨bl, ol + q, none⟩ = some (.int .u8 u) := (hS3.out.bl.cell (p := ⟨bl, ol + q, none⟩) (by have : bl < w.heap.size := hbl; have := ZS.out; show bl < _; omega)).trans hcu
        have hbl3 : bl < w3.heap.size := by have : bl < w.heap.size := hbl; omega
        have p0 : (0 : Int) ≤ (u : Int) % (L'.length : Int) := Int.emod_nonneg _ (by omega)
        have p1 : (u : Int) % (L'.length : Int) < L'.length := Int.emod_lt_of_pos _ (by omega)
        obtain ⟨bm, om, rfl, hbm, hmc⟩ := hL.2.at_ hL0
        have hcl := hL.2.le
        have hcm := hL.2.mx
        unfold maxLen at hcm
        have hbm3 : bm < w3.heap.size := hbm
        have hix : u % L'.length < L'.length := Nat.mod_lt _ hL0
        have k3 : (u : Int) % (L'.length : Int) = ((u % L'.length : Nat) : Int) := rfl
        have x0 := hmc _ hix 0 (by omega)
        have x1 := hmc _ hix 1 (by omega)
        have x2 := hmc _ hix 2 (by omega)
        have hok := hLok _ (List.getElem_mem hix)
        rw [List.getElem?_eq_getElem hix] at x0 x1 x2
        have hLnil : ¬ L' = [] := by intro e; rw [e] at hL0; simp at hL0
        have hwu : IntKind.i64.wrap (u : Int) = (u : Int) := IntWalk.i64_in _ (by omega)
        have k4 : (IntKind.i64.wrap (u : Int)).tmod (L'.length : Int) = ((u % L'.length : Nat) : Int) := by rw [hwu, Int.tmod_eq_emod_of_nonneg (by omega)]; rfl
        have ix0 : (0 : Int) ≤ ((u % L'.length : Nat) : Int) := by omega
        have ix1 : ((u % L'.length : Nat) : Int) < L'.length := by omega
        clear hwu p0 p1 k3
        generalize L'[u % L'.length] = X at *
        obtain ⟨k, i, v⟩ := X
        simp [mvC] at x0 x1 x2
        rw [← Nat.add_assoc] at x1 x2
        simp only at hok
        generalize hixe : u % L'.length = ix at *
        have hdo := hid (fun (W : World) (hW : Below w3.heap.size w3 W) => do_any vars dom m b ac t.length capc t a1 th.length c1 th a2 mem.length c2 mem bad k i v q W ((Kp.of (hS3.out.bl.trans (hW.mono hS3.out.bl.size))).ths Hc.out) ((Kp.of hW).thr (hS3.out.hh.widen fun k hk => hk.2)) ((Kp.of hW).ints (hS3.out.hm.widen fun k hk => hk.2)) hS3.out.fit (by omega) hS3.out.buf hok)
        clear hok hLok hmc hL Hl
        go_wp2_with fail
        go_region_law (first
          | (go_simp; go_at_call 20; (with_reducible refine (hdo.out _ (Below.refl _ _).drew).mono ?_); rintro e w5 ⟨va, vm, B, th', mem', bad', rfl, hst5, hfit5, hbuf5, hb5⟩
             have hb35 : Below w3.heap.size w3 w5 := (Below.refl w3.heap.size w3).drew.trans hb5
             have hS5 := hS3.out.below hb35
             obtain ⟨a9, c9, b9, d9, rfl, rfl, -, -⟩ := hst5.in_
             have y0 := hS5.box.c0
             have y1 := hS5.box.c1
             have y2 := hS5.box.c2
             have yf := hS5.box.f0
             have hput := hid (hS3.out.put (bad' := bad') hb35 hst5 hfit5 hbuf5 rfl)
             clear hb35 hst5 hfit5 hbuf5 hb5 hS5)
          | fail)
        all_goals
          go_wp2_with fail
          obtain ⟨a1', c1', a2', c2', e1', e2', hput⟩ := hput.out
          go_roundw
          case rel => exact ⟨q + 1, a1', c1', th', a2', c2', mem', bad', by omega, by omega, by simp, hput⟩
          case measure => simp [intOf]; omega
    · obtain ⟨W3, e3, z0, z1, z2⟩ := three (a := .slice a1 th.length c1) (b := .slice a2 mem.length c2) (c := .bool bad) r0 r1 r2
      have hfin := hid (hS.out.fin (by omega) HB.out ZS.out e3)
      have E3 := hid e3
      have lz2 : w.heap.size + 1 + 1 < wr.heap.size := by omega
      clear e3 hS
      by_cases hql : q < ln
      · have hq30 : ¬ q < 30 := fun h => hgo ⟨hql, h⟩
        obtain rfl : q = 30 := by omega
        have q0 : (30 : Int) < ln := by omega
        clear hgo
        go_wp2_with fail
        rw [← E3.out]
        refine bodyPost_ret ?_ rfl hfin.out
        simp [results, Tryz.results9, go_sem, z0, z1, z2]
      · obtain rfl : q = ln := by omega
        clear hgo hql
        go_wp2_with fail
        rw [← E3.out]
        refine bodyPost_ret ?_ rfl hfin.out
        simp [results, Tryz.results9, go_sem, z0, z1, z2]
end Go.Proofs.YtekmcoflagajkaaGreatDoor
