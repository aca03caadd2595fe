/- The document's Do: a move that may be is done. -/
import Derived.Test.YtekmcoflagajkaaGreatDoorStep
import Derived.Test.YtekmcoflagajkaaGreatDoorStpD
import Derived.Test.YtekmcoflagajkaaGreatDoorBunU
import Derived.Test.YtekmcoflagajkaaGreatDoorBufM
import Derived.Deep.RegionLaw
import Derived.Deep.CutRange
import Derived.BigRegion
import Derived.BigQuiet
import Derived.WalkSmall
namespace Go.Proofs.YtekmcoflagajkaaGreatDoor
open Go.RowKit

/-- May a move be made? -/
def MvOk (m b dom : Int) (t : List (List Ins)) (th : List Thr) (mem : List Int) (bad : Bool) (k : Int) (i : Nat) (v : Int) : Prop :=
  ∃ (hi : i < th.length) (hj : i < t.length), (k = 1 ∧ v = 0 ∧ (stepL m b dom t[i] th[i] mem bad).2 = true) ∨ (k = 2 ∧ v ∈ refHeadsL m th[i].buf)
def DoPost (w : World) (vars dom m b : Int) (t : List (List Ins)) (n : Nat) (e : Ending) (w' : World) : Prop :=
  ∃ va vm B th' mem' bad', e = .returned (.tuple #[.agg #[va, vm, .bool bad'], .int .i64 0]) ∧ StW w' w.heap.size B va vm th' mem' ∧ fitsL vars dom t m b th' mem' = true ∧ (∀ x ∈ th', x.buf.length ≤ n + 1) ∧ Below w.heap.size w w'
theorem stepL_buf (m b dom : Int) (l : List Ins) (x : Thr) (mem : List Int) (bad : Bool) : (stepL m b dom l x mem bad).1.1.buf.length ≤ x.buf.length + 1 := by
  unfold stepL
  split
  · exact stepI_buf m b dom _ _ mem bad
  · simp
theorem set_buf {th : List Thr} {i : Nat} {x : Thr} {n : Nat} (h : ∀ y ∈ th, y.buf.length ≤ n) (hx : x.buf.length ≤ n + 1) : ∀ y ∈ th.set i x, y.buf.length ≤ n + 1 := fun y hy => by
  rcases List.mem_or_eq_of_mem_set hy with hy | rfl
  · have := h y hy; omega
  · exact hx
/-- What Do is handed, and where its answer goes. -/
structure DoB (W : World) (n : Nat) (vars dom m b : Int) (cv hv mv : Value) (bad : Bool) (k i v : Int) : Prop where
  lt : n + 5 ≤ W.heap.size
  c0 : W.cell? ⟨n, 0, none⟩ = some (.int .i64 vars)
  c1 : W.cell? ⟨n, 1, none⟩ = some (.int .i64 dom)
  c2 : W.cell? ⟨n, 2, none⟩ = some cv
  m0 : W.cell? ⟨n + 1, 0, none⟩ = some (.int .i64 m)
  m1 : W.cell? ⟨n + 1, 1, none⟩ = some (.int .i64 b)
  s0 : W.cell? ⟨n + 1 + 1, 0, none⟩ = some hv
  s1 : W.cell? ⟨n + 1 + 1, 1, none⟩ = some mv
  s2 : W.cell? ⟨n + 1 + 1, 2, none⟩ = some (.bool bad)
  v0 : W.cell? ⟨n + 1 + 1 + 1, 0, none⟩ = some (.int .i64 k)
  v1 : W.cell? ⟨n + 1 + 1 + 1, 1, none⟩ = some (.int .i64 i)
  v2 : W.cell? ⟨n + 1 + 1 + 1, 2, none⟩ = some (.int .i64 v)
  r0 : W.cell? ⟨n + 1 + 1 + 1 + 1, 0, none⟩ = some (.slice none 0 0)
  r1 : W.cell? ⟨n + 1 + 1 + 1 + 1, 1, none⟩ = some (.slice none 0 0)
  r2 : W.cell? ⟨n + 1 + 1 + 1 + 1, 2, none⟩ = some (.bool false)
  rf : ∀ o, W.frozen? ⟨n + 1 + 1 + 1 + 1, o, none⟩ = false
theorem DoB.later {W W' : World} {n : Nat} {vars dom m b : Int} {cv hv mv : Value} {bad : Bool} {k i v : Int} (h : DoB W n vars dom m b cv hv mv bad k i v) (hb : Below (n + 5) W W') : DoB W' n vars dom m b cv hv mv bad k i v := by
  have hc : ∀ k o, k < n + 5 → W'.cell? ⟨k, o, none⟩ = W.cell? ⟨k, o, none⟩ := fun k o hk => hb.cell (p := ⟨k, o, none⟩) hk
  exact ⟨Nat.le_trans h.lt hb.size, (hc _ _ (by omega)).trans h.c0, (hc _ _ (by omega)).trans h.c1, (hc _ _ (by omega)).trans h.c2, (hc _ _ (by omega)).trans h.m0, (hc _ _ (by omega)).trans h.m1, (hc _ _ (by omega)).trans h.s0, (hc _ _ (by omega)).trans h.s1, (hc _ _ (by omega)).trans h.s2,
    (hc _ _ (by omega)).trans h.v0, (hc _ _ (by omega)).trans h.v1, (hc _ _ (by omega)).trans h.v2,
    (hc _ _ (by omega)).trans h.r0, (hc _ _ (by omega)).trans h.r1, (hc _ _ (by omega)).trans h.r2, fun o => (hb.frozen (p := ⟨_, o, none⟩) (by show n + 1 + 1 + 1 + 1 < n + 5; omega)).trans (h.rf o)⟩
theorem refHeads_any (a : Option Addr) (n cap : Nat) (l : List (Int × Int)) (m : Int) (w : World) (hl : EnIn w (In_ w) a n cap l) (hlen : l.length ≤ 1000) :
    Calls Tryz.prog 37 #[.slice a n cap, .int .i64 m] w (HeadsN w (refHeadsL m l)) := by
  by_cases hm : m = 2
  · subst hm
    have h := refHeads_big a n cap l w hl hlen
    have e : refHeadsL 2 l = hdL l := by unfold refHeadsL; rw [if_pos rfl]
    rw [e]
    exact h
  · exact refHeads_small a n cap l m hm w hl

/-- What Take leaves: the store in a box of its own, the rest in new blocks. -/
def TkR (w5 wx : World) (L : List (Int × Int)) (vn x : Int) (b15 b16 b17 : Value) : Prop :=
  ∃ eb a c, b15 = .pointer (some ⟨eb, 0, none⟩) ∧ b16 = .slice a L.length c ∧ b17 = .bool true ∧ (w5.heap.size ≤ eb ∧ eb < wx.heap.size) ∧ wx.cell? ⟨eb, 0, none⟩ = some (.int .i64 vn) ∧ wx.cell? ⟨eb, 1, none⟩ = some (.int .i64 x) ∧
    EnIn wx (fun b => w5.heap.size ≤ b ∧ b < wx.heap.size) a L.length c L ∧ Below w5.heap.size w5 wx
theorem tkA {w5 w6 : World} {L : List (Int × Int)} {vn x : Int} {a6 : Option Addr} {c6 : Nat} (hen : EnIn w6 (fun b => w5.drew.heap.size ≤ b ∧ b < w6.heap.size) a6 L.length c6 L) (hb : Below w5.drew.heap.size w5.drew w6) :
    TkR w5 (w6.alloc (.cells #[.int .i64 vn, .int .i64 x] 66)) L vn x (.pointer (some ⟨w6.heap.size, 0, none⟩)) (.slice a6 L.length c6) (.bool true) := by
  have hb0 : Below w5.heap.size w5 w6 := (Below.refl _ _).drew.trans hb
  have hx := heap_alloc_new w6 (.cells #[.int .i64 vn, .int .i64 x] 66)
  refine ⟨_, _, _, rfl, rfl, rfl, ⟨hb0.size, by simp⟩, cell_of_heap hx, cell_of_heap hx, ?_, hb0.alloc hb0.size _⟩
  refine (hen.keep fun b o h => ?_).widen fun b h => ⟨h.1, by have := h.2; simp; omega⟩
  exact (Below.refl w6.heap.size w6 |>.alloc (Nat.le_refl _) _).cell (p := ⟨b, o, none⟩) h.2
theorem tkB {w5 w6 : World} {L : List (Int × Int)} {vn x : Int} {a6 : Option Addr} {c6 : Nat} {o : Obj} (hen : EnIn w6 (fun b => (w5.alloc o).drew.heap.size ≤ b ∧ b < w6.heap.size) a6 L.length c6 L) (hb : Below (w5.alloc o).drew.heap.size (w5.alloc o).drew w6)
    (hcx : w6.heap[w5.heap.size]? = some (.cells #[.int .i64 0, .int .i64 0] 66 (0, 0))) :
    TkR w5 ((w6.setCell ⟨w5.heap.size, 0, none⟩ (.int .i64 vn)).setCell ⟨w5.heap.size, 1, none⟩ (.int .i64 x)) L vn x (.pointer (some ⟨w5.heap.size, 0, none⟩)) (.slice a6 L.length c6) (.bool true) := by
  have hz : (w5.alloc o).drew.heap.size = w5.heap.size + 1 := by show (w5.alloc o).heap.size = _; simp
  have hb0 : Below w5.heap.size w5 w6 := ((Below.refl w5.heap.size w5).alloc (Nat.le_refl _) o).drew.trans (hb.mono (by omega))
  have hl := (Array.getElem?_eq_some_iff.1 hcx).1
  have hc : ((w6.setCell ⟨w5.heap.size, 0, none⟩ (.int .i64 vn)).setCell ⟨w5.heap.size, 1, none⟩ (.int .i64 x)).heap[w5.heap.size]? = some (.cells #[.int .i64 vn, .int .i64 x] 66 (0, 0)) := by
    simp [World.setCell, Array.getElem?_modify, hcx]
  refine ⟨_, _, _, rfl, rfl, rfl, ⟨Nat.le_refl _, by simpa using hl⟩, cell_of_heap hc, cell_of_heap hc, ?_, (hb0.setCell (Nat.le_refl _) _).setCell (Nat.le_refl _) _⟩
  refine (hen.keep fun b o h => ?_).widen fun b h => ⟨by have := h.1; omega, by simpa using h.2⟩
  have h1 := h.1
  rw [World.cell?_setCell_other _ _ _ _ (by intro e; injection e; omega), World.cell?_setCell_other _ _ _ _ (by intro e; injection e; omega)]

set_option maxRecDepth 100000 in
set_option maxHeartbeats 16000000 in
theorem do_any (vars dom m b : Int) (ac : Option Addr) (nc capc : Nat) (t : List (List Ins)) (ah : Option Addr) (nh caph : Nat) (th : List Thr) (am : Option Addr) (nm capm : Nat) (mem : List Int) (bad : Bool) (k : Int) (i : Nat) (v : Int) (n : Nat) (w : World)
    (hc : ThsIn w (In_ w) ac nc capc t) (hh : ThrIn w (In_ w) ah nh caph th) (hm : IntIn w (In_ w) am nm capm mem) (hf : fitsL vars dom t m b th mem = true) (hn : n ≤ 999) (hbuf : ∀ x ∈ th, x.buf.length ≤ n) (hmv : MvOk m b dom t th mem bad k i v) :
    Calls Tryz.prog 20 #[.agg #[.int .i64 vars, .int .i64 dom, .slice ac nc capc], .agg #[.int .i64 m, .int .i64 b], .agg #[.slice ah nh caph, .slice am nm capm, .bool bad], .agg #[.int .i64 k, .int .i64 i, .int .i64 v]] w (DoPost w vars dom m b t n) := by
  have hn1 := hc.1
  have hn2 := hh.1
  have hn3 := hm.1
  subst hn1 hn2 hn3
  obtain ⟨hi, hj, hkind⟩ := hmv
  have hcap2 := hh.le
  have hmx2 := hh.mx
  unfold maxLen at hmx2
  obtain ⟨W0, hW⟩ : ∃ W0, W0 = ((((w.alloc (.cells #[.int .i64 vars, .int .i64 dom, .slice ac t.length capc] 25)).alloc (.cells #[.int .i64 m, .int .i64 b] 30)).alloc (.cells #[.slice ah th.length caph, .slice am mem.length capm, .bool bad] 34)).alloc (.cells #[.int .i64 k, .int .i64 i, .int .i64 v] 59)).alloc (.cells #[.slice none 0 0, .slice none 0 0, .bool false] 34) := ⟨_, rfl⟩
  have hB : Below w.heap.size w W0 := by subst hW; exact (((((Below.refl _ _).alloc (Nat.le_refl _) _).alloc (by simp) _).alloc (by simp; omega) _).alloc (by simp; omega) _).alloc (by simp; omega) _
  have zS : W0.heap.size = w.heap.size + 5 := by subst hW; simp
  have HS0 : DoB W0 w.heap.size vars dom m b (.slice ac t.length capc) (.slice ah th.length caph) (.slice am mem.length capm) bad k i v := by
    subst hW
    refine ⟨by simp, ?_, ?_, ?_, ?_, ?_, ?_, ?_, ?_, ?_, ?_, ?_, ?_, ?_, ?_, fun o => ?_⟩ <;> go_simp
  have c0 := HS0.c0
  have c1 := HS0.c1
  have c2 := HS0.c2
  have m0 := HS0.m0
  have m1 := HS0.m1
  have s0 := HS0.s0
  have s1 := HS0.s1
  have s2 := HS0.s2
  have Hc := hid ((Kp.of hB).ths hc)
  have Hh := hid ((Kp.of hB).thr hh)
  have Hm := hid ((Kp.of hB).ints hm)
  have hfit := hid (refFits_any vars dom m b ac t.length capc t ah th.length caph th am mem.length capm mem bad W0 Hc.out Hh.out Hm.out (fun x hx => by have := hbuf x hx; omega))
  have hmay := hid hf
  rw [hf] at hfit
  have HB := hid hB
  have hWx := hid hW
  have HS0 := hid HS0
  clear hW hB hh hm hc hf
  go_enter Tryz.func20, Tryz.ntmps20
  go_wp2_with fail
  rw [← hWx.out]
  refine hfit.out.mono ?_
  rintro e w1 ⟨rfl, hb1⟩
  have HB1 := hid hb1
  have HS1 := hid (HS0.out.later (by rw [← zS]; exact hb1))
  clear hfit hb1 hWx HS0 c0 c1 c2 m0 m1 s0 s1 s2
  have c0 := HS1.out.c0
  have c1 := HS1.out.c1
  have c2 := HS1.out.c2
  have m0 := HS1.out.m0
  have m1 := HS1.out.m1
  have s0 := HS1.out.s0
  have s1 := HS1.out.s1
  have s2 := HS1.out.s2
  have v0 := HS1.out.v0
  have v1 := HS1.out.v1
  have v2 := HS1.out.v2
  have i0 : (0 : Int) ≤ i := by omega
  have i1 : (i : Int) < th.length := by omega
  have lt1 := HS1.out.lt
  rcases hkind with ⟨rfl, rfl, hst⟩ | ⟨rfl, hv⟩
  · have hstep := hid (step_any vars dom m b ac t.length capc t ah th.length caph th am mem.length capm mem bad i w1 ((Kp.of HB1.out).ths Hc.out) ((Kp.of HB1.out).thr Hh.out) ((Kp.of HB1.out).ints Hm.out) hmay.out (fun x hx => by have := hbuf x hx; omega) hi hj)
    have hfs := hid (step_fits (bad := bad) hmay.out hi hj hst)
    have hbs := hid (set_buf (i := i) hbuf (Nat.le_trans (stepL_buf m b dom t[i] th[i] mem bad) (Nat.add_le_add_right (hbuf _ (List.getElem_mem hi)) 1)))
    have Hst := hid hst
    clear hst
    generalize stepL m b dom t[i] th[i] mem bad = R at *
    go_wp2_with fail
    refine hstep.out.mono ?_
    rintro e w2 ⟨V, rfl, hb2, h3, -⟩
    obtain ⟨va, vm, B, rfl, hs2⟩ := h3 Hst.out
    have HR := Hst.out
    obtain ⟨⟨x', mem', bad'⟩, ok⟩ := R
    simp only at HR
    subst HR
    obtain ⟨a9, c9, b9, d9, e1, e2, -, -⟩ := hs2.in_
    rw [List.length_set] at e1
    subst e1 e2
    have HS2 := hid (HS1.out.later (hb2.mono HS1.out.lt))
    obtain ⟨W3, e3, z0, z1, z2⟩ := three (a := .slice a9 th.length c9) (b := .slice b9 mem'.length d9) (c := .bool bad') HS2.out.r0 HS2.out.r1 HS2.out.r2
    have lt2 := HS2.out.lt
    have hb3 : Below W3.heap.size W3 (W3.alloc (.cells #[.slice a9 th.length c9, .slice b9 mem'.length d9, .bool bad'] 34)) := (Below.refl _ _).alloc (Nat.le_refl _) _
    have hz3 : W3.heap.size = w2.heap.size := by rw [e3, three_size]
    have hpo : Hid (DoPost w vars dom m b t n (.returned (.tuple #[.agg #[.slice a9 th.length c9, .slice b9 mem'.length d9, .bool bad'], .int .i64 0])) (W3.alloc (.cells #[.slice a9 th.length c9, .slice b9 mem'.length d9, .bool bad'] 34))) := hid (by
      refine ⟨_, _, B, th.set i x', mem', bad', rfl, ?_, hfs.out, hbs.out, ?_⟩
      · refine StW.other ?_ hb3
        rw [e3]
        have hz := HB1.out.size
        exact StW.down (hs2.grown (grown_trans (grown_trans (grown_set _ _ _ _) (grown_set _ _ _ _)) (grown_set _ _ _ _)) (by omega)) (by omega)
      · refine Below.trans ?_ (hb3.mono (by omega))
        rw [e3]
        exact three_below (HB.out.trans ((HB1.out.trans (hb2.mono HB1.out.size)).mono HB.out.size)) (by omega))
    have hlt3 : w.heap.size + 1 + 1 + 1 + 1 < W3.heap.size := by omega
    replace z0 := (hb3.cell (p := ⟨w.heap.size + 1 + 1 + 1 + 1, 0, none⟩) hlt3).trans z0
    replace z1 := (hb3.cell (p := ⟨w.heap.size + 1 + 1 + 1 + 1, 1, none⟩) hlt3).trans z1
    replace z2 := (hb3.cell (p := ⟨w.heap.size + 1 + 1 + 1 + 1, 2, none⟩) hlt3).trans z2
    have E3 := hid e3
    have r0 := HS2.out.r0
    have r1 := HS2.out.r1
    have r2 := HS2.out.r2
    have rf := HS2.out.rf
    have ln2 : w.heap.size + 1 + 1 + 1 + 1 < w2.heap.size := by omega
    clear e3 hstep h3 hs2 hb2 hb3 hlt3 hz3
    go_wp2_with fail
    rw [← E3.out]
    refine bodyPost_ret ?_ rfl hpo.out
    simp [results, Tryz.results20, go_sem, z0, z1, z2]
  · obtain ⟨bt, ot, ar, kr, rfl, hbt, ⟨t0, t1, t2⟩, ⟨t3, t4, t5⟩, hen⟩ := ((Kp.of HB1.out).thr Hh.out).at_ i hi
    have hbl : th[i].buf.length ≤ n := hbuf _ (List.getElem_mem hi)
    have hbt2 : bt < w1.heap.size := hbt
    obtain ⟨x, htk, hv0, hv1, hfit2⟩ := flush_fits hmay.out hi hj hv
    have hml : Hid ((mem.length : Int) = vars) := hid (fits_open hmay.out).2.2.1
    have hfs := hid hfit2
    have hbs := hid (set_buf (i := i) (x := { th[i] with buf := (takB v th[i].buf).2.1 }) hbuf (Nat.le_trans (takB_len v th[i].buf) (Nat.le_trans hbl (Nat.le_succ n))))
    have hheads : Hid (∀ W, Below w1.heap.size w1 W → Calls Tryz.prog 37 #[.slice ar th[i].buf.length kr, .int .i64 m] W fun e w' => ∃ a cap, e = .returned (.slice a (refHeadsL m th[i].buf).length cap) ∧ IntIn w' (In_ w') a (refHeadsL m th[i].buf).length cap (refHeadsL m th[i].buf) ∧ Below w1.heap.size w1 w') := hid (fun W hW =>
      (refHeads_any ar th[i].buf.length kr th[i].buf m W ((Kp.of hW).en hen) (by omega)).mono fun e w' h => by
        obtain ⟨a, cap, h1, h2, h3⟩ := h
        exact ⟨a, cap, h1, h2.widen fun b hb => hb.2, hW.trans (h3.mono hW.size)⟩)
    have hb100 : th.length ≤ 100 ∧ mem.length ≤ 100 := by
      obtain ⟨f1, f2, f3, -, -⟩ := fits_open hmay.out
      unfold mayL at f1
      simp only [Bool.and_eq_true, decide_eq_true_eq] at f1
      have h2 := f1.1.1.1.1
      unfold rightL at h2
      simp only [Bool.and_eq_true, decide_eq_true_eq] at h2
      omega
    have hown := hid (fun (W : World) (hW : Kp W0 W) => own_any (some ⟨bt, ot, none⟩) th.length caph th am mem.length capm mem bad W (hW.thr Hh.out) (hW.ints Hm.out) (fun x hx => by have := hbuf x hx; omega) hb100.1 hb100.2)
    have Hen := hid hen
    have Hv := hid hv
    have Htk := hid htk
    clear hv hen hbt htk hfit2
    generalize refHeadsL m th[i].buf = H at *
    have hd1 : decide ((i : Int) < 0) = false := decide_eq_false (by omega)
    have hd2 : decide (th.length ≤ i) = false := decide_eq_false (by omega)
    go_wp2_with fail
    go_cut [12] from 57 to 66 (fun u wx => ∃ a cap, u = .slice a H.length cap ∧ IntIn wx (In_ wx) a H.length cap H ∧ Below w1.heap.size w1 wx)
    case first =>
      go_region_law (first
        | (go_simp; go_at_call 37; (with_reducible refine (hheads.out _ (Below.refl _ _).drew).mono ?_); rintro e w2 ⟨a2, c2', rfl, hH2, hb2⟩)
        | fail)
      all_goals
        go_wp2_with fail
        go_meet
        case rel => exact ⟨a2, c2', rfl, hH2, hb2⟩
    case rest =>
      obtain ⟨a2, cap2, rfl, hH, hb2⟩ := hcut
      obtain ⟨w2, rfl⟩ : ∃ W : World, W = wc := ⟨_, rfl⟩
      have HS2 := hid (HS1.out.later (hb2.mono HS1.out.lt))
      have HB2 := hid hb2
      have HH := hid hH
      have HT5 := hid t5
      clear c0 c1 c2 m0 m1 s0 s1 s2 v0 v1 v2 t0 t1 t2 t3 t4 t5 hb2 hH hheads
      have v0 := HS2.out.v0
      have v1 := HS2.out.v1
      have v2 := HS2.out.v2
      go_wp2_with fail
      go_loopw [13] (fun u wr => ∃ j : Nat, j ≤ H.length ∧ u = .int .i64 j ∧ Hid (Below w2.heap.size w2 wr) ∧ Hid (v ∉ H.take j)) (fun u _ => H.length - (intOf u).toNat)
      case atStart => exact ⟨0, Nat.zero_le _, rfl, hid (Below.refl _ _), hid (by simp)⟩
      case round =>
        obtain ⟨j, hj9, rfl, hbr, hno⟩ := hrel
        have HSr := hid (HS2.out.later (hbr.out.mono HS2.out.lt))
        clear v0 v1 v2
        have v0 := HSr.out.v0
        have v1 := HSr.out.v1
        have v2 := HSr.out.v2
        have hcl := HH.out.2.le
        have hcm := HH.out.2.mx
        unfold maxLen at hcm
        by_cases hjl : j < H.length
        · obtain ⟨bh, oh, rfl, hbh, hch⟩ := HH.out.at_ j hjl
          have hbh2 : bh < w2.heap.size := hbh
          have hch2 : wr.cell? ⟨bh, oh + j, none⟩ = some (.int .i64 H[j]) := (hbr.out.cell (p := ⟨bh, oh + j, none⟩) hbh2).trans hch
          have j0 : (0 : Int) ≤ j := by omega
          have j1 : (j : Int) < H.length := by omega
          have hts : Hid (H.take (j + 1) = H.take j ++ [H[j]]) := List.take_succ_eq_append_getElem hjl
          generalize H[j] = hd at *
          by_cases hjv : hd = v
          · subst hjv
            have hKr : Kp W0 wr := Kp.of (HB1.out.trans ((HB2.out.trans (hbr.out.mono HB2.out.size)).mono HB1.out.size))
            go_wp2_with fail
            go_quiet (fail)
            obtain ⟨w3, hw3⟩ : ∃ w3, w3 = wr.drewN nq := ⟨_, rfl⟩
            rw [← hw3]
            have hb3 : Hid (Below w2.heap.size w2 w3) := hid (by rw [hw3]; exact below_drewN hbr.out nq)
            have hK3 : Kp W0 w3 := Kp.of (HB1.out.trans ((HB2.out.trans (hb3.out.mono HB2.out.size)).mono HB1.out.size))
            have how := hid (hown.out w3 hK3)
            have HS3 := hid (HS2.out.later (hb3.out.mono HS2.out.lt))
            have s0 := HS3.out.s0
            have s1 := HS3.out.s1
            have s2 := HS3.out.s2
            clear hw3 hKr hK3
            go_wp2_with fail
            refine how.out.mono ?_
            rintro e w4 ⟨va, vm, B, rfl, hst4, hb4⟩
            obtain ⟨vn, rfl⟩ : ∃ vn : Nat, hd = vn := ⟨hd.toNat, by omega⟩
            have hvl : vn < mem.length := by have := hml.out; omega
            obtain ⟨g, cap, a4, k4, rfl, ⟨g1, g2⟩, ⟨g3, g4⟩, -, -, xf, -⟩ := hst4.ht.at_ i hi
            obtain ⟨gm, cm, rfl, ⟨g5, g6⟩, ⟨g7, g8⟩, -⟩ := hst4.hm.at_ vn hvl
            obtain ⟨-, hmf, ⟨-, hgB⟩, -⟩ := hst4.mem_ vn hvl rfl
            unfold maxLen at g2 g6
            have HST := hid hst4
            have hb4b : Hid (Below w2.heap.size w2 w4) := hid (hb3.out.trans (hb4.mono hb3.out.size))
            have hz3 := hb3.out.size
            have HB43 := hid hb4
            clear s0 s1 s2 v0 v1 v2 hch2 how hb4 hst4 hbr HS3 HSr hno hts hown
            go_wp2_with fail
            obtain ⟨w5, hw5⟩ : ∃ w5, w5 = (w4.alloc (.cells #[.slice (some ⟨g, 0, none⟩) th.length cap, .slice (some ⟨gm, 0, none⟩) mem.length cm, .bool bad] 34)) := ⟨_, rfl⟩
            rw [← hw5]
            have hb45 : Hid (Below w4.heap.size w4 w5) := hid (by rw [hw5]; exact (Below.refl _ _).alloc (Nat.le_refl _) _)
            have HX5 : Hid (SBox w5 w4.heap.size (.slice (some ⟨g, 0, none⟩) th.length cap) (.slice (some ⟨gm, 0, none⟩) mem.length cm) bad) := hid (by
              have hcx := heap_alloc_new w4 (.cells #[.slice (some ⟨g, 0, none⟩) th.length cap, .slice (some ⟨gm, 0, none⟩) mem.length cm, .bool bad] 34)
              rw [hw5]
              exact ⟨by simp, cell_of_heap hcx, cell_of_heap hcx, cell_of_heap hcx, fun o => unfrozen hcx⟩)
            have hb25 : Hid (Below w2.heap.size w2 w5) := hid (hb4b.out.trans (hb45.out.mono hb4b.out.size))
            have hb15 : Hid (Below w1.heap.size w1 w5) := hid (HB2.out.trans (hb25.out.mono HB2.out.size))
            have HS5 := hid (HS2.out.later (hb25.out.mono HS2.out.lt))
            have htake : Hid (∀ W, Below w5.heap.size w5 W → Calls Tryz.prog 39 #[.slice ar th[i].buf.length kr, .int .i64 vn] W fun e w' => ∃ a c, e = .returned (.tuple #[.agg #[.int .i64 vn, .int .i64 x], .slice a (takB vn th[i].buf).2.1.length c, .bool true]) ∧ EnIn w' (fun b => W.heap.size ≤ b ∧ b < w'.heap.size) a (takB vn th[i].buf).2.1.length c (takB vn th[i].buf).2.1 ∧ Below W.heap.size W w') := hid (fun W hW =>
              (refTake_any ar th[i].buf.length kr th[i].buf vn W ((Kp.of (hb15.out.trans (hW.mono hb15.out.size))).en Hen.out) (by omega)).mono fun e w' h => by
                have ht := Htk.out
                obtain ⟨a, c, h1, h2, h3⟩ := h
                refine ⟨a, c, ?_, h2, h3⟩
                rw [h1, ht])
            have l5 : w4.heap.size < w5.heap.size := HX5.out.lt
            have s0 := HS5.out.s0
            have v1 := HS5.out.v1
            have v2 := HS5.out.v2
            have t5 := (hb15.out.cell (p := ⟨bt, ot + i * 6 + 5, none⟩) hbt2).trans HT5.out
            have lt5 := HS5.out.lt
            have lb5 : bt < w5.heap.size := Nat.lt_of_lt_of_le hbt2 hb15.out.size
            have ln2 : w.heap.size + 1 + 1 < w5.heap.size := by omega
            have ln3 : w.heap.size + 1 + 1 + 1 < w5.heap.size := by omega
            clear hw5
            go_cut [15, 16, 17] from 87 to 100 (fun b15 b16 b17 wx => TkR w5 wx (takB vn th[i].buf).2.1 vn x b15 b16 b17)
            case first =>
              --A
              go_region_law (first
                | (go_simp; go_at_call 39; (with_reducible refine (htake.out _ (Below.refl _ _).drew).mono ?_); rintro e w6 ⟨a6, c6, rfl, hen6, hb6⟩)
                | (go_simp; go_at_call 39; (with_reducible refine (htake.out _ ((Below.refl _ _).alloc (Nat.le_refl _) _).drew).mono ?_); rintro e w6 ⟨a6, c6, rfl, hen6, hb6⟩
                   have hzw6 : w5.heap.size < w6.heap.size := Nat.lt_of_lt_of_le (by show w5.heap.size < (World.alloc _ _).heap.size; simp) hb6.size
                   have hcx := hb6.block w5.heap.size (by show w5.heap.size < (World.alloc _ _).heap.size; simp)
                   have hcx := hcx.trans (heap_alloc_new w5 (.cells #[.int .i64 0, .int .i64 0] 66))
                   have e0 := cell_of_heap (j := 0) hcx
                   have e1 := cell_of_heap (j := 1) hcx
                   have ef0 := unfrozen (j := 0) hcx
                   have ef1 := unfrozen (j := 1) hcx
                   simp at e0 e1)
                | fail)
              all_goals
                go_wp2_with fail
                go_meet
                case rel => first | exact tkA hen6 hb6 | exact tkB hen6 hb6 hcx
              --B
            case rest =>
              obtain ⟨eb, a6, c6, rfl, rfl, rfl, ⟨q1, q2⟩, e0, e1, hen6, hb6⟩ := hcut
              obtain ⟨w6, rfl⟩ : ∃ W : World, W = wc := ⟨_, rfl⟩
              have hb46 : Below w4.heap.size w4 w6 := hb45.out.trans (hb6.mono hb45.out.size)
              have hst6 := HST.out.other hb46
              have hlen6 : EnIn w6 (Sx w6 B (.slice (some ⟨g, 0, none⟩) th.length cap)) a6 (takB vn th[i].buf).2.1.length c6 (takB vn th[i].buf).2.1 := hen6.widen fun b hb => ⟨by have := hb.1; have := HST.out.lt; omega, hb.2, fun e => by have := hb.1; simp [Value.ownBlock] at e; omega⟩
              have hst7 := hst6.setBuf i hi rfl a6 c6 _ hlen6
              have hst8 := hst7.setMem vn hvl rfl x
              obtain ⟨aa, kk, -, ⟨-, -, x5⟩, xf6, -⟩ := hst6.at_ i hi rfl
              obtain ⟨x6, xm6, -⟩ := hst6.mem_ vn hvl rfl
              have HS6 := hid (HS5.out.later (hb6.mono HS5.out.lt))
              have hX6 := HX5.out.block hb6.size (hb6.block _ HX5.out.lt)
              have lt6 := HS6.out.lt
              obtain ⟨hgm5, hg5⟩ : w.heap.size + 5 ≤ gm ∧ w.heap.size + 5 ≤ g := by have := HST.out.le; have := HS2.out.lt; omega
              obtain ⟨V, hV⟩ : ∃ V, V = (w6.setCell ⟨g, i * 6 + 5, none⟩ (.slice a6 (takB vn th[i].buf).2.1.length c6)).setCell ⟨gm, vn, none⟩ (.int .i64 x) := ⟨_, rfl⟩
              have hbV : Below (w.heap.size + 5) w6 V := by rw [hV]; exact ((Below.refl _ _).setCell hg5 _).setCell hgm5 _
              have HSV := HS6.out.later hbV
              obtain ⟨W3, e3, z0, z1, z2⟩ := three (a := .slice (some ⟨g, 0, none⟩) th.length cap) (b := .slice (some ⟨gm, 0, none⟩) mem.length cm) (c := .bool bad) HSV.r0 HSV.r1 HSV.r2
              have hb06 : Below W0.heap.size W0 w6 := HB1.out.trans ((hb15.out.trans (hb6.mono hb15.out.size)).mono HB1.out.size)
              have hpo : Hid (DoPost w vars dom m b t n (.returned (.tuple #[.agg #[.slice (some ⟨g, 0, none⟩) th.length cap, .slice (some ⟨gm, 0, none⟩) mem.length cm, .bool bad], .int .i64 0])) W3) := hid (by
                refine ⟨_, _, B, _, _, bad, rfl, ?_, hfs.out, hbs.out, ?_⟩
                · rw [e3]
                  rw [← hV] at hst8
                  exact StW.down (hst8.grown (grown_trans (grown_trans (grown_set _ _ _ _) (grown_set _ _ _ _)) (grown_set _ _ _ _)) (by have := HS2.out.lt; omega)) (by have := HS2.out.lt; omega)
                · rw [e3, hV]
                  exact three_below (((HB.out.trans (hb06.mono HB.out.size)).setCell (by show w.heap.size ≤ g; omega) _).setCell (by show w.heap.size ≤ gm; omega) _) (by omega))
              have hE3 := hid e3
              have hVx := hid hV
              have r0 := HS6.out.r0
              have r1 := HS6.out.r1
              have r2 := HS6.out.r2
              have rf := HS6.out.rf
              have x7 := hX6.c0
              have x8 := hX6.c1
              have x9 := hX6.c2
              have vv1 := HS6.out.v1
              have xm0 := xm6 vn
              have xf0 := xf6 (i * 6 + 5)
              have l6 := hb6.size
              have la1 : g < w6.heap.size := by omega
              have la2 : gm < w6.heap.size := by omega
              have la3 : w4.heap.size < w6.heap.size := by omega
              have la4 : w.heap.size + 1 + 1 + 1 < w6.heap.size := by omega
              have la5 : w.heap.size + 1 + 1 + 1 + 1 < w6.heap.size := by omega
              have lv0 : (0 : Int) ≤ vn := by omega
              have lv1 : (vn : Int) < mem.length := by omega
              clear hst6 hst7 hst8 hlen6 HSV hbV hX6 HS6 hb46 hb06 hen6 hb6 htake HX5 hb45 HST e3 hV s0 v1 v2 t5 HS5 xf6 xm6 xf hmf
              go_wp2_with fail
              rw [← hVx.out, ← hE3.out]
              refine bodyPost_ret ?_ rfl hpo.out
              simp [results, Tryz.results20, go_sem, z0, z1, z2]
          · have hno2 : Hid (v ∉ H.take (j + 1)) := by
              show _ ∉ _
              rw [hts.out]
              intro h
              rcases List.mem_append.1 h with h | h
              · exact hno.out h
              · simp at h; exact hjv h.symm
            go_wp2_with fail
            go_quiet (fail)
            go_wp2_with fail
            go_roundw
            case rel => exact ⟨j + 1, by omega, by simp, hid (below_drewN hbr.out nq), hno2⟩
            case measure => simp [intOf]; omega
        · exact absurd (by rw [List.take_of_length_le (by omega)]; exact Hv.out) hno.out
end Go.Proofs.YtekmcoflagajkaaGreatDoor
