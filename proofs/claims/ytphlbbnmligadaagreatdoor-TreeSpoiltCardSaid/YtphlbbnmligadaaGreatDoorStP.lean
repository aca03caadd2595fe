/- Statements: the program's word. -/
import Derived.Test.YtphlbbnmligadaaGreatDoorStR
import Derived.Test.YtphlbbnmligadaaGreatDoorBunM
import Derived.StillTailTactics
import Derived.Deep.CutRange
namespace Go.Proofs.YtphlbbnmligadaaGreatDoor
open Go.RowKit

/-- The table's row, whole. -/
theorem forms_get2 (k : Int) : ∃ f : Value, f.oneCell' = true ∧ mget formZ k formsL = .agg #[.bool (h0 k), .bool (h1 k), .bool (h2 k), .bool (h3 k), .bool (h4 k), .bool (h5 k), f] := by
  by_cases e1 : k = 1
  · subst e1; exact ⟨_, rfl, rfl⟩
  by_cases e2 : k = 2
  · subst e2; exact ⟨_, rfl, rfl⟩
  by_cases e3 : k = 3
  · subst e3; exact ⟨_, rfl, rfl⟩
  by_cases e4 : k = 4
  · subst e4; exact ⟨_, rfl, rfl⟩
  by_cases e5 : k = 5
  · subst e5; exact ⟨_, rfl, rfl⟩
  by_cases e6 : k = 6
  · subst e6; exact ⟨_, rfl, rfl⟩
  by_cases e7 : k = 7
  · subst e7; exact ⟨_, rfl, rfl⟩
  by_cases e8 : k = 8
  · subst e8; exact ⟨_, rfl, rfl⟩
  by_cases e9 : k = 9
  · subst e9; exact ⟨_, rfl, rfl⟩
  by_cases e10 : k = 10
  · subst e10; exact ⟨_, rfl, rfl⟩
  by_cases e11 : k = 11
  · subst e11; exact ⟨_, rfl, rfl⟩
  refine ⟨.nilFunc, rfl, ?_⟩
  have i1 : (k == 1) = false := by simpa using e1
  have i2 : (k == 2) = false := by simpa using e2
  have i3 : (k == 3) = false := by simpa using e3
  have i6 : (k == 6) = false := by simpa using e6
  have i7 : (k == 7) = false := by simpa using e7
  have i8 : (k == 8) = false := by simpa using e8
  have i9 : (k == 9) = false := by simpa using e9
  have i10 : (k == 10) = false := by simpa using e10
  have i11 : (k == 11) = false := by simpa using e11
  simp only [mget, formsL, if_neg e1, if_neg e2, if_neg e3, if_neg e4, if_neg e5, if_neg e6, if_neg e7, if_neg e8, if_neg e9, if_neg e10, if_neg e11, h0, h1, h2, h3, h4, h5, i1, i2, i3, i6, i7, i8, i9, i10, i11, formZ, Bool.or_false]
theorem sumB_false' {vars dom : Int} {deep : Nat} {l : List St} {m : Nat} (h : sumB vars dom deep l m = false) : okL vars dom deep l = false ∨ 200 < m + cntL l := by
  unfold sumB at h
  cases ho : okL vars dom deep l
  · exact .inl rfl
  · right
    rw [ho] at h
    simpa using h
theorem forms_is (k : Int) : (formsL.any fun p => p.1 == k) = (decide (1 ≤ k) && decide (k ≤ 11)) := by
  by_cases h : 1 ≤ k ∧ k ≤ 11
  · have : k = 1 ∨ k = 2 ∨ k = 3 ∨ k = 4 ∨ k = 5 ∨ k = 6 ∨ k = 7 ∨ k = 8 ∨ k = 9 ∨ k = 10 ∨ k = 11 := by omega
    rcases this with rfl | rfl | rfl | rfl | rfl | rfl | rfl | rfl | rfl | rfl | rfl <;> rfl
  · have hr : (decide (1 ≤ k) && decide (k ≤ 11)) = false := by simp; omega
    rw [hr]
    simp only [formsL, List.any_cons, List.any_nil, Bool.or_false, Bool.or_eq_false_iff, beq_eq_false_iff_ne]
    omega

/-- Block cb is a checker that has counted so many statements; block mb holds its table. -/
structure Ck (w : World) (cb mb : Nat) (vars dom many : Int) : Prop where
  lt : cb < w.heap.size
  ne : mb ≠ cb
  map : MapIs w mb formsL
  c0 : w.cell? ⟨cb, 0, none⟩ = some (.int .i64 vars)
  c1 : w.cell? ⟨cb, 1, none⟩ = some (.int .i64 dom)
  c2 : w.cell? ⟨cb, 2, none⟩ = some (.int .i64 many)
  c3 : w.cell? ⟨cb, 3, none⟩ = some (.map (some mb))
  fr : ∀ o, w.frozen? ⟨cb, o, none⟩ = false
theorem Ck.keep {w w' : World} {cb mb : Nat} {vars dom many : Int} (h : Ck w cb mb vars dom many) (hb : Below w.heap.size w w') : Ck w' cb mb vars dom many :=
  ⟨Nat.lt_of_lt_of_le h.lt hb.size, h.ne, h.map.keep hb, (hb.cell (p := ⟨_, _, none⟩) h.lt).trans h.c0, (hb.cell (p := ⟨_, _, none⟩) h.lt).trans h.c1, (hb.cell (p := ⟨_, _, none⟩) h.lt).trans h.c2, (hb.cell (p := ⟨_, _, none⟩) h.lt).trans h.c3,
    fun o => (World.frozen?_of_block (a := ⟨_, o, none⟩) (hb.block _ h.lt)).trans (h.fr o)⟩
theorem Ck.put {w : World} {cb mb : Nat} {vars dom many : Int} (h : Ck w cb mb vars dom many) (m : Int) : Ck (w.setCell ⟨cb, 2, none⟩ (.int .i64 m)) cb mb vars dom m := by
  obtain ⟨lt, ne, map, c0, c1, c2, c3, fr⟩ := h
  refine ⟨by simpa [World.setCell] using lt, ne, ?_, by go_simp, by go_simp, by go_simp, by go_simp, fun o => by go_simp⟩
  obtain ⟨es, clock, h1, h2⟩ := map
  exact ⟨es, clock, (Below.heap_setCell _ _ _ _ ne).trans h1, h2⟩

/-- All blocks but cb are as they were. -/
abbrev Kx (cb : Nat) (W0 w' : World) : Prop := W0.grownBy w' (some cb) ∧ ∀ b o, b < W0.heap.size → b ≠ cb → w'.cell? ⟨b, o, none⟩ = W0.cell? ⟨b, o, none⟩
theorem Kx.of {cb : Nat} {W0 w' : World} (h : W0.grownBy w' (some cb)) : Kx cb W0 w' := ⟨h, fun b o hb hne => World.cell?_of_block (h.block b hb (by simpa using hne))⟩
theorem Kx.refl (cb : Nat) (W0 : World) : Kx cb W0 W0 := .of ⟨rfl, rfl, rfl, Nat.le_refl _, fun _ _ _ => rfl⟩
theorem Kx.trans {cb : Nat} {W0 w1 w2 : World} (h : Kx cb W0 w1) (k : w1.grownBy w2 (some cb)) : Kx cb W0 w2 :=
  .of ⟨k.os.trans h.1.os, k.tape.trans h.1.tape, k.output.trans h.1.output, Nat.le_trans h.1.size k.size, fun i hi hne => (k.block i (Nat.lt_of_lt_of_le hi h.1.size) hne).trans (h.1.block i hi hne)⟩
theorem Kx.below {cb : Nat} {W0 w1 w2 : World} (h : Kx cb W0 w1) (k : Below w1.heap.size w1 w2) : Kx cb W0 w2 := h.trans ⟨k.os, k.tape, k.output, k.size, fun i hi _ => k.block i hi⟩
theorem Kx.set {cb : Nat} {W0 w1 : World} (h : Kx cb W0 w1) (i : Nat) (v : Value) : Kx cb W0 (w1.setCell ⟨cb, i, none⟩ v) :=
  h.trans ⟨rfl, rfl, rfl, by simp, fun k _ hne => Below.heap_setCell _ _ _ _ (by simpa using hne)⟩
/-- The blocks of w but one. -/
def InB (w : World) (cb : Nat) : Nat → Prop := fun b => b < w.heap.size ∧ b ≠ cb
theorem Kx.strow {cb : Nat} {W0 w : World} (h : Kx cb W0 w) {a : Option Addr} {n cap : Nat} {l : List St} (hx : StRow W0 (InB W0 cb) a n cap l) : StRow w (InB w cb) a n cap l :=
  (hx.keep fun b o hb => h.2 b o hb.1 hb.2).widen fun _ hb => ⟨Nat.lt_of_lt_of_le hb.1 h.1.size, hb.2⟩
theorem Kx.ex {cb : Nat} {W0 w : World} (h : Kx cb W0 w) {cs : List Value} {x : Ex} (hx : ExIn W0 (InB W0 cb) cs x) : ExIn w (In_ w) cs x :=
  (hx.keep fun b o hb => h.2 b o hb.1 hb.2).widen fun _ hb => Nat.lt_of_lt_of_le hb.1 h.1.size

/-- What the program tells of statements. -/
def PStPost (vars dom : Int) (deep many : Nat) (l : List St) (cb mb : Nat) (w : World) (e : Ending) (w' : World) : Prop :=
  e = .returned (.bool (sumB vars dom deep l many)) ∧ w.grownBy w' (some cb) ∧ (sumB vars dom deep l many = true → Ck w' cb mb vars dom ((many + cntL l : Nat) : Int))
def PStC (vars dom : Int) (deep : Nat) : Prop :=
  ∀ (di : Int) (l : List St) (a : Option Addr) (cap many cb mb : Nat) (w : World), di = deep → many ≤ 200 → StRow w (InB w cb) a l.length cap l → Ck w cb mb vars dom many →
    Calls Tryz.prog 49 #[.pointer (some ⟨cb, 0, none⟩), .slice a l.length cap, .int .i64 di] w (PStPost vars dom deep many l cb mb w)

set_option maxRecDepth 100000 in
set_option maxHeartbeats 8000000 in
theorem pstmts_step (vars dom : Int) (deep : Nat) (hdeep : deep ≤ 1000) (ih : ∀ d, deep = d + 1 → PStC vars dom d) : PStC vars dom deep := by
  intro di l a cap many cb mb w hdi hmany200 hin hck
  have hcap := hin.le
  have hmx := hin.mx
  unfold maxLen at hmx
  have Hin := hid hin
  have Hih := hid ih
  have Hdi := hid hdi
  have hd1 : di ≤ 1000 := by omega
  have hd2 : 0 ≤ di := by omega
  clear ih hdi hin
  have hno : Hid (∀ w', w.grownBy w' (some cb) → sumB vars dom deep l many = false → PStPost vars dom deep many l cb mb w (.returned (.bool false)) w') := fun w' hB hf =>
    ⟨by rw [hf], hB, fun h => (by rw [hf] at h; cases h)⟩
  have hcbl := hck.lt
  go_enter Tryz.func49, Tryz.ntmps49
  go_wp2_with fail
  go_loopw [13] (fun i wr => ∃ k n : Nat, k ≤ l.length ∧ i = .int .i64 k ∧ n ≤ 200 ∧ Hid (okL vars dom deep (l.take k) = true ∧ n = many + cntL (l.take k)) ∧ Hid (Ck wr cb mb vars dom n) ∧ Kx cb w wr) (fun i _ => l.length - (intOf i).toNat)
  case atStart => exact ⟨0, many, Nat.zero_le _, rfl, hmany200, ⟨rfl, rfl⟩, hck, Kx.refl _ _⟩
  case round =>
    obtain ⟨k, n, hk, rfl, hn2, hI, hC, hK⟩ := hrel
    by_cases hlt : k < l.length
    · obtain ⟨b, off, u0, u1, u2, u3, v0, v1, v2, v3, ta, ea, tc, ec, rfl, hb, ⟨e0, e1, e2⟩, ⟨e3, e4, e5, e6⟩, ⟨e7, e8, e9, e10⟩, ⟨e11, e12⟩, ⟨ha, hbx, ht, he⟩, -⟩ := Hin.out.at_ k hlt
      obtain ⟨hbl, hbne⟩ := hb
      have k0 : (0 : Int) ≤ k := by omega
      have k1 : (k : Int) < l.length := by omega
      have g0 := hK.1.size
      have g3 : b < wr.heap.size := by omega
      have hbad := hid (fun (h : okS vars dom deep l[k] = false) => sumB_ok (okL_take hlt h) many)
      have hgood := hid (fun (h : okS vars dom deep l[k] = true) => okL_step hlt hI.out.1 h)
      have hmany := hid (fun (h : 200 < n + cntS l[k]) => sumB_many (vars := vars) (dom := dom) (deep := deep) (l := l) (m := many) (by
        have h1 := cntL_take l k hlt
        have h2 := cntL_le l (k + 1)
        have h3 := hI.out.2
        omega))
      have hnext := hid (show many + cntL (l.take (k + 1)) = n + cntS l[k] by rw [cntL_take l k hlt, hI.out.2]; omega)
      have hce := cntS_eq l[k]
      have hzero : deep = 0 → okS vars dom deep l[k] = false := fun h => by subst h; unfold okS; rfl
      have hsucc : ∀ d, deep = d + 1 → okS vars dom deep l[k] = okF vars dom d l[k] := fun d e => by rw [e]; exact okS_succ vars dom d l[k]
      have htl := ht.le
      have htm := ht.mx
      have hel := he.le
      have hem := he.mx
      unfold maxLen at htm hem
      generalize l[k] = x at *
      obtain ⟨xk, xr, xv, xa, xb, xt, xe⟩ := x
      simp only [St.kind, St.reg, St.var, St.a, St.b, St.t, St.e] at *
      have Hce := hid hce
      have Hsucc := hid hsucc
      have Hzero := hid hzero
      clear hce hsucc hzero
      obtain ⟨o0, o1, o2, o3⟩ := ha.ones
      obtain ⟨o4, o5, o6, o7⟩ := hbx.ones
      have s0 := fun ad W m => run_store (P := Tryz.prog) W ad u0 m o0
      have s1 := fun ad W m => run_store (P := Tryz.prog) W ad u1 m o1
      have s2 := fun ad W m => run_store (P := Tryz.prog) W ad u2 m o2
      have s3 := fun ad W m => run_store (P := Tryz.prog) W ad u3 m o3
      have s4 := fun ad W m => run_store (P := Tryz.prog) W ad v0 m o4
      have s5 := fun ad W m => run_store (P := Tryz.prog) W ad v1 m o5
      have s6 := fun ad W m => run_store (P := Tryz.prog) W ad v2 m o6
      have s7 := fun ad W m => run_store (P := Tryz.prog) W ad v3 m o7
      clear o0 o1 o2 o3 o4 o5 o6 o7
      have Ha := hid ha
      have Hbx := hid hbx
      have Ht := hid ht
      have He := hid he
      clear ha hbx ht he
      have hA : Kx cb w (wr.alloc (.cells #[.int .i64 xk, .int .i64 xr, .int .i64 xv, u0, u1, u2, u3, v0, v1, v2, v3, .slice ta xt.length tc, .slice ea xe.length ec] 56)) := hK.below ((Below.refl _ _).alloc (Nat.le_refl _) _)
      have hCA := hid (hC.out.keep ((Below.refl _ wr).alloc (Nat.le_refl _) (.cells #[.int .i64 xk, .int .i64 xr, .int .i64 xv, u0, u1, u2, u3, v0, v1, v2, v3, .slice ta xt.length tc, .slice ea xe.length ec] 56)))
      go_wp2_with fail
      clear s0 s1 s2 s3 s4 s5 s6 s7
      have zx : wr.heap.size < (wr.alloc (.cells #[.int .i64 xk, .int .i64 xr, .int .i64 xv, u0, u1, u2, u3, v0, v1, v2, v3, .slice ta xt.length tc, .slice ea xe.length ec] 56)).heap.size := by simp
      generalize hV : World.alloc wr _ = V at *
      have x0 : V.cell? ⟨wr.heap.size, 0, none⟩ = some (.int .i64 xk) := by subst hV; go_simp
      have x1 : V.cell? ⟨wr.heap.size, 1, none⟩ = some (.int .i64 xr) := by subst hV; go_simp
      have x2 : V.cell? ⟨wr.heap.size, 2, none⟩ = some (.int .i64 xv) := by subst hV; go_simp
      have x3 : V.cell? ⟨wr.heap.size, 3, none⟩ = some u0 := by subst hV; go_simp
      have x4 : V.cell? ⟨wr.heap.size, 4, none⟩ = some u1 := by subst hV; go_simp
      have x5 : V.cell? ⟨wr.heap.size, 5, none⟩ = some u2 := by subst hV; go_simp
      have x6 : V.cell? ⟨wr.heap.size, 6, none⟩ = some u3 := by subst hV; go_simp
      have x7 : V.cell? ⟨wr.heap.size, 7, none⟩ = some v0 := by subst hV; go_simp
      have x8 : V.cell? ⟨wr.heap.size, 8, none⟩ = some v1 := by subst hV; go_simp
      have x9 : V.cell? ⟨wr.heap.size, 9, none⟩ = some v2 := by subst hV; go_simp
      have x10 : V.cell? ⟨wr.heap.size, 10, none⟩ = some v3 := by subst hV; go_simp
      have x11 : V.cell? ⟨wr.heap.size, 11, none⟩ = some (.slice ta xt.length tc) := by subst hV; go_simp
      have x12 : V.cell? ⟨wr.heap.size, 12, none⟩ = some (.slice ea xe.length ec) := by subst hV; go_simp
      clear hV e0 e1 e2 e3 e4 e5 e6 e7 e8 e9 e10 e11 e12
      have hnx : wr.heap.size ≠ cb := by have := hC.out.lt; omega
      have gv := hA.1.size
      generalize wr.heap.size = nx at *
      go_cut [9, 10] from 17 to 26 (fun v9 v10 wx => ∃ nf, v9 = .pointer (some ⟨nf, 0, none⟩) ∧ v10 = .bool (decide (1 ≤ xk) && decide (xk ≤ 11)) ∧ V.heap.size ≤ nf ∧ nf < wx.heap.size ∧ wx.cell? ⟨nf, 4, none⟩ = some (.bool (h4 xk)) ∧ wx.cell? ⟨nf, 5, none⟩ = some (.bool (h5 xk)) ∧ Below V.heap.size V wx)
      case first =>
        obtain ⟨fv, hf1, hget⟩ := forms_get2 xk
        have hst : ∀ ad W m, (store ad fv m).run Tryz.prog W = stored Tryz.prog W ad fv m := fun ad W m => run_store _ W ad fv m hf1
        have hlk : ∀ W, MapIs W mb formsL → (Instr.lookup 90 (.map (some mb)) (.int .i64 xk) true).run Tryz.prog W = .ok (.tuple #[.agg #[.bool (h0 xk), .bool (h1 xk), .bool (h2 xk), .bool (h3 xk), .bool (h4 xk), .bool (h5 xk), fv], .bool (decide (1 ≤ xk) && decide (xk ≤ 11))]) W := fun W hW => by
          have := run_look2_of hW Tryz.underlying90 Tryz.underlying3 (zeroForm W) xk
          rw [hget, forms_is] at this
          exact this
        have hM := hCA.out.map
        have k1 := hlk V hM
        have k2 := hlk V.drew hM.drew
        have k3 := hlk _ (hM.alloc (.cells #[.bool false, .bool false, .bool false, .bool false, .bool false, .bool false, .nilFunc] 105))
        have k4 := hlk _ (hM.alloc (.cells #[.bool false, .bool false, .bool false, .bool false, .bool false, .bool false, .nilFunc] 105)).drew
        have k5 := hlk _ (hM.drew.alloc (.cells #[.bool false, .bool false, .bool false, .bool false, .bool false, .bool false, .nilFunc] 105))
        clear hlk hM
        have c3 := hCA.out.c3
        have cl := hCA.out.lt
        generalize h0 xk = i0 at *
        generalize h1 xk = i1 at *
        generalize h2 xk = i2 at *
        generalize h3 xk = i3 at *
        generalize h4 xk = i4 at *
        generalize h5 xk = i5 at *
        generalize (decide (1 ≤ xk) && decide (xk ≤ 11)) = is at *
        clear hget
        have hRun := hid hst
        go_region
        all_goals
          go_wp2_with fail
          go_meet
          case rel => exact ⟨V.heap.size, rfl, rfl, Nat.le_refl _, by simp, by go_simp, by go_simp, ((Below.refl _ V).alloc (Nat.le_refl _) _).drew⟩
      case rest =>
      obtain ⟨nf, rfl, rfl, hnf, znf, f4, f5, hB⟩ := hcut
      have hK1 := hA.below hB
      have hC1 := hid (hCA.out.keep hB)
      have y0 := (hB.cell (p := ⟨nx, 0, none⟩) zx).trans x0
      have y1 := (hB.cell (p := ⟨nx, 1, none⟩) zx).trans x1
      have y2 := (hB.cell (p := ⟨nx, 2, none⟩) zx).trans x2
      have y3 := (hB.cell (p := ⟨nx, 3, none⟩) zx).trans x3
      have y4 := (hB.cell (p := ⟨nx, 4, none⟩) zx).trans x4
      have y5 := (hB.cell (p := ⟨nx, 5, none⟩) zx).trans x5
      have y6 := (hB.cell (p := ⟨nx, 6, none⟩) zx).trans x6
      have y7 := (hB.cell (p := ⟨nx, 7, none⟩) zx).trans x7
      have y8 := (hB.cell (p := ⟨nx, 8, none⟩) zx).trans x8
      have y9 := (hB.cell (p := ⟨nx, 9, none⟩) zx).trans x9
      have y10 := (hB.cell (p := ⟨nx, 10, none⟩) zx).trans x10
      have y11 := (hB.cell (p := ⟨nx, 11, none⟩) zx).trans x11
      have y12 := (hB.cell (p := ⟨nx, 12, none⟩) zx).trans x12
      have zy : nx < wc.heap.size := by have := hB.size; omega
      have hfc : nf ≠ cb := by have := hCA.out.lt; omega
      clear x0 x1 x2 x3 x4 x5 x6 x7 x8 x9 x10 x11 x12 zx hB hA hnf gv g0 hC
      have c2 := hC1.out.c2
      have cf := hC1.out.fr 2
      have cl := hC1.out.lt
      have hK2 := hK1.set 2 (.int .i64 ((n : Int) + 1))
      have hC2 := hid (hC1.out.put ((n : Int) + 1))
      cases c3 : (decide (1 ≤ xk) && decide (xk ≤ 11))
      · have hfl : Hid (sumB vars dom deep l many = false) := by
          show _ = _
          cases deep with
          | zero => exact hbad.out (Hzero.out rfl)
          | succ d => exact hbad.out (by rw [Hsucc.out d rfl, okF_mk, c3]; simp)
        clear c3
        go_wp2_with fail
        go_ret
        exact hno.out _ hK2.1 hfl.out
      by_cases c4 : 200 < (n : Int) + 1
      · have hfl := hid (hmany.out (by have := Hce.out; omega))
        clear c3
        go_wp2_with fail
        go_ret
        exact hno.out _ hK2.1 hfl.out
      by_cases c5 : di < 1
      · have hfl := hid (hbad.out (Hzero.out (by have := Hdi.out; omega)))
        clear c3
        go_wp2_with fail
        go_ret
        exact hno.out _ hK2.1 hfl.out
      obtain ⟨d, hd⟩ : ∃ d, deep = d + 1 := ⟨deep - 1, by have := Hdi.out; omega⟩
      have hS : Hid (okS vars dom deep (.mk xk xr xv xa xb xt xe) = (partL xk xr xv xa xb vars dom && (h4 xk || xt.isEmpty) && (h5 xk || xe.isEmpty) && okL vars dom d xt && okL vars dom d xe)) := by
        show _ = _
        rw [Hsucc.out d hd, okF_mk, c3]
        rfl
      have hdd : di - 1 = (d : Int) := by have := Hdi.out; omega
      have Hdd := hid hdd
      have Hih2 := hid (Hih.out d hd)
      have hgood2 := hid (fun (h : okS vars dom deep (.mk xk xr xv xa xb xt xe) = true) => hgood.out h)
      clear Hsucc Hzero Hih hd hdd c3
      go_wp2_with fail
      generalize hV2 : World.setCell wc _ _ = V2 at *
      have sc : wc.heap.size ≤ V2.heap.size := by rw [← hV2]; simp
      have hV3 : ∀ b o, b ≠ cb → V2.cell? ⟨b, o, none⟩ = wc.cell? ⟨b, o, none⟩ := fun b o hb => by rw [← hV2]; rw [World.cell?_setCell_other _ _ _ _ (by simp)]
      have q0 := (hV3 nx 0 hnx).trans y0
      have q1 := (hV3 nx 1 hnx).trans y1
      have q2 := (hV3 nx 2 hnx).trans y2
      have q3 := (hV3 nx 3 hnx).trans y3
      have q4 := (hV3 nx 4 hnx).trans y4
      have q5 := (hV3 nx 5 hnx).trans y5
      have q6 := (hV3 nx 6 hnx).trans y6
      have q7 := (hV3 nx 7 hnx).trans y7
      have q8 := (hV3 nx 8 hnx).trans y8
      have q9 := (hV3 nx 9 hnx).trans y9
      have q10 := (hV3 nx 10 hnx).trans y10
      have q11 := (hV3 nx 11 hnx).trans y11
      have q12 := (hV3 nx 12 hnx).trans y12
      have p4 := (hV3 nf 4 hfc).trans f4
      have p5 := (hV3 nf 5 hfc).trans f5
      have zx : nx < V2.heap.size := by omega
      have zf : nf < V2.heap.size := by omega
      have r0 := hC2.out.c0
      have r1 := hC2.out.c1
      have rl := hC2.out.lt
      have hn200 : n + 1 ≤ 200 := by omega
      clear hV2 hV3 y0 y1 y2 y3 y4 y5 y6 y7 y8 y9 y10 y11 y12 f4 f5 znf zy c2 cf cl c4 c5 sc hK1 hC1
      have hK3 : Kx cb w V2.drew := hK2.below ((Below.refl _ _).drew)
      have hC3 := hid (hC2.out.keep ((Below.refl V2.heap.size V2).drew))
      have hP := hid (pPart_any xk xr xv xa xb vars dom [u0, u1, u2, u3] [v0, v1, v2, v3] V2.drew (hK3.ex Ha.out) (hK3.ex Hbx.out))
      go_still_tail 18, (by kernel_rfl)
      change wpList _ _ _ _ _ V2.drew
      go_wp2_with fail
      refine hP.out.mono ?_
      rintro e w1 ⟨rfl, hb1⟩
      have hK4 := hK3.below hb1
      have hC4 := hid (hC3.out.keep hb1)
      have m11 : w1.cell? ⟨nx, 11, none⟩ = some (.slice ta xt.length tc) := (hb1.cell (p := ⟨_, _, none⟩) zx).trans q11
      have m12 : w1.cell? ⟨nx, 12, none⟩ = some (.slice ea xe.length ec) := (hb1.cell (p := ⟨_, _, none⟩) zx).trans q12
      have m4 : w1.cell? ⟨nf, 4, none⟩ = some (.bool (h4 xk)) := (hb1.cell (p := ⟨_, _, none⟩) zf).trans p4
      have m5 : w1.cell? ⟨nf, 5, none⟩ = some (.bool (h5 xk)) := (hb1.cell (p := ⟨_, _, none⟩) zf).trans p5
      have z1 : nx < w1.heap.size := Nat.lt_of_lt_of_le zx hb1.size
      have z2 : nf < w1.heap.size := Nat.lt_of_lt_of_le zf hb1.size
      have hx1 : Hid (nx < w1.heap.size) := z1
      clear hP hb1 q0 q1 q2 q3 q4 q5 q6 q7 q8 q9 q10 q11 q12 p4 p5 zx zf r0 r1 rl hK2 hC2 hK3 hC3
      have hF : Hid ((h4 xk || xt.isEmpty) = true ∧ (h5 xk || xe.isEmpty) = true ∧ partL xk xr xv xa xb vars dom = true → (sumB vars dom d xt (n + 1) = false → sumB vars dom deep l many = false) ∧ (sumB vars dom d xt (n + 1) = true → n + 1 + cntL xt ≤ 200 ∧
          (sumB vars dom d xe (n + 1 + cntL xt) = false → sumB vars dom deep l many = false) ∧
          (sumB vars dom d xe (n + 1 + cntL xt) = true → n + 1 + cntL xt + cntL xe ≤ 200 ∧ okL vars dom deep (l.take (k + 1)) = true ∧ n + 1 + cntL xt + cntL xe = many + cntL (l.take (k + 1))))) := by
        rintro ⟨g1, g2, g3⟩
        have hS3 : okS vars dom deep (.mk xk xr xv xa xb xt xe) = (okL vars dom d xt && okL vars dom d xe) := by rw [hS.out, g1, g2, g3]; rfl
        refine ⟨fun r1 => ?_, fun r1 => ⟨(sumB_true r1).2, fun r2 => ?_, fun r2 => ?_⟩⟩
        · rcases sumB_false' r1 with h | h
          · exact hbad.out (by rw [hS3, h]; rfl)
          · exact hmany.out (by have := Hce.out; omega)
        · rcases sumB_false' r2 with h | h
          · exact hbad.out (by rw [hS3, h]; simp)
          · exact hmany.out (by have := Hce.out; omega)
        · obtain ⟨s1, s2⟩ := sumB_true r1
          obtain ⟨s3, s4⟩ := sumB_true r2
          exact ⟨by omega, hgood2.out (by rw [hS3, s1, s3]; rfl), by rw [hnext.out]; have := Hce.out; omega⟩
      have HT : Hid (∀ w1, Kx cb w w1 → Ck w1 cb mb vars dom ((n : Int) + 1) → Calls Tryz.prog 49 #[.pointer (some ⟨cb, 0, none⟩), .slice ta xt.length tc, .int .i64 (di - 1)] w1 (PStPost vars dom d (n + 1) xt cb mb w1)) :=
        fun w1 hK1 hC1 => Hih2.out (di - 1) xt ta tc (n + 1) cb mb w1 Hdd.out hn200 (hK1.strow Ht.out) (by rw [show ((n + 1 : Nat) : Int) = (n : Int) + 1 from rfl]; exact hC1)
      have HE : Hid (∀ (m : Nat) w1, m ≤ 200 → Kx cb w w1 → Ck w1 cb mb vars dom m → Calls Tryz.prog 49 #[.pointer (some ⟨cb, 0, none⟩), .slice ea xe.length ec, .int .i64 (di - 1)] w1 (PStPost vars dom d m xe cb mb w1)) :=
        fun m w1 hm hK1 hC1 => Hih2.out (di - 1) xe ea ec m cb mb w1 Hdd.out hm (hK1.strow He.out) hC1
      have hP1 : partL xk xr xv xa xb vars dom = false → sumB vars dom deep l many = false := fun h => hbad.out (by rw [hS.out, h]; rfl)
      have hP4 : (h4 xk || xt.isEmpty) = false → sumB vars dom deep l many = false := fun h => hbad.out (by rw [hS.out, h]; simp)
      have hP5 : (h5 xk || xe.isEmpty) = false → sumB vars dom deep l many = false := fun h => hbad.out (by rw [hS.out, h]; simp)
      have hP1 := hid hP1
      have hP4 := hid hP4
      have hP5 := hid hP5
      unfold PStPost at HT HE
      clear Ht He Hce hnext hgood hgood2 hS hbad hmany Hih2 Ha Hbx Hdd
      generalize partL xk xr xv xa xb vars dom = b1 at *
      generalize h4 xk = b4 at *
      generalize h5 xk = b5 at *
      cases b1
      · have hfl := hid (hP1.out rfl)
        go_wp2_with fail
        go_ret
        exact hno.out _ hK4.1 hfl.out
      have hcase : (b4 = false ∧ 0 < xt.length) ∨ ((b4 || xt.isEmpty) = true ∧ (b4 = true ∨ (b4 = false ∧ xt = [])) ∧ ((b5 = false ∧ 0 < xe.length) ∨ ((b5 || xe.isEmpty) = true ∧ (b5 = true ∨ (b5 = false ∧ xe = []))))) := by
        cases b4 <;> cases b5 <;> cases xt <;> cases xe <;> simp
      rcases hcase with ⟨rfl, h1⟩ | ⟨G4, h1, ⟨rfl, h2⟩ | ⟨G5, h2⟩⟩
      · have hfl := hid (hP4.out (by cases xt with | nil => simp at h1 | cons => rfl))
        have m3 : ¬ xt = [] := fun h => by rw [h] at h1; simp at h1
        have m5 : (0 : Int) < xt.length := by omega
        go_wp2_with fail
        go_ret
        exact hno.out _ hK4.1 hfl.out
      · have hfl := hid (hP5.out (by cases xe with | nil => simp at h2 | cons => rfl))
        have m3 : ¬ xe = [] := fun h => by rw [h] at h2; simp at h2
        have m5 : (0 : Int) < xe.length := by omega
        rcases h1 with rfl | ⟨rfl, rfl⟩
        all_goals
          go_wp2_with fail
          go_ret
          exact hno.out _ hK4.1 hfl.out
      · obtain ⟨hf1, hf2⟩ := hF.out ⟨G4, G5, rfl⟩
        have Hf1 := hid hf1
        have Hf2 := hid hf2
        clear hf1 hf2 hF G4 G5 hP1 hP4 hP5
        generalize sumB vars dom d xt (n + 1) = r1 at HT Hf1 Hf2
        generalize cntL xt = a1 at HT Hf2
        have HE2 := hid (HE.out (n + 1 + a1))
        clear HE
        generalize sumB vars dom d xe (n + 1 + a1) = r2 at HE2 Hf2
        generalize cntL xe = a2 at HE2 Hf2
        rcases h1 with rfl | ⟨rfl, rfl⟩
        all_goals
          rcases h2 with rfl | ⟨rfl, rfl⟩
          all_goals
            go_wp2_with fail
            refine (HT.out w1 hK4 hC4.out).mono ?_
            rintro e w2 ⟨rfl, hg2, hck2⟩
            have hK5 := hK4.trans hg2
            have m12' : w2.cell? ⟨nx, 12, none⟩ = some _ := (World.cell?_of_block (a := ⟨_, 12, none⟩) (hg2.block nx z1 (by simpa using hnx))).trans m12
            have z3 : nx < w2.heap.size := Nat.lt_of_lt_of_le z1 hg2.size
            have Hck2 := hid hck2
            clear hg2 hck2 m11 m12 m4 m5 z1 z2 hC4 hK4
            cases r1
            · have hfl := hid (Hf1.out rfl)
              go_wp2_with fail
              go_ret
              exact hno.out _ hK5.1 hfl.out
            obtain ⟨t1, t2, t3⟩ := Hf2.out rfl
            have T2 := hid t2
            have T3 := hid t3
            have hck3 := hid (Hck2.out rfl)
            clear t2 t3 Hf1 Hf2 Hck2
            go_wp2_with fail
            refine (HE2.out w2 t1 hK5 hck3.out).mono ?_
            rintro e w3 ⟨rfl, hg3, hck4⟩
            have hK6 := hK5.trans hg3
            have Hck4 := hid hck4
            clear hg3 hck4 m12' z3 hck3 hK5
            cases r2
            · have hfl := hid (T2.out rfl)
              go_wp2_with fail
              go_ret
              exact hno.out _ hK6.1 hfl.out
            obtain ⟨u1, u2⟩ := T3.out rfl
            have U2 := hid u2
            have hck5 := hid (Hck4.out rfl)
            clear u2 T2 T3 Hck4
            go_wp2_with fail
            go_roundw
            case rel => exact ⟨k + 1, n + 1 + a1 + a2, by omega, by simp, u1, U2, hck5, hK6⟩
            case measure => simp [intOf]; omega
    · obtain rfl : k = l.length := by omega
      rw [List.take_length] at hI
      have hfin : Hid (sumB vars dom deep l many = true) := by
        show _ = _
        unfold sumB
        rw [hI.out.1, ← hI.out.2]
        simp; omega
      have hcn := hid hI.out.2
      clear hI
      go_wp2_with fail
      go_ret
      exact ⟨ret_bool (by rw [hfin.out]), hK.1, fun _ => by rw [← hcn.out]; exact hC.out⟩
end Go.Proofs.YtphlbbnmligadaaGreatDoor
