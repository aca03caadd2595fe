/- CodeSpoilt, walked. -/
import Derived.Test.YtcgpobeidlimkaaGreatDoorBunP
import Derived.Test.YtcgpobeidlimkaaGreatDoorBunA
import Derived.Test.YtcgpobeidlimkaaGreatDoorTold
import Derived.BigQuiet
namespace Go.Proofs.YtcgpobeidlimkaaGreatDoor
open Go.RowKit

/-- A thread that is not empty: its row lies in a block of its own. -/
theorem ThsO.row1 {w : World} {B : Nat} {S : Nat → Prop} {v : Value} {T : List (List Ins)} (h : ThsO w B S v T) (hS : ∀ b, S b → b < B) (k : Nat) (hk : k < T.length) (h0 : T[k].length ≠ 0) :
    ∃ g cap gk m c, v = .slice (some ⟨g, 0, none⟩) T.length cap ∧ T.length ≤ cap ∧ cap ≤ maxLen ∧ B ≤ g ∧ g < w.heap.size ∧ w.cell? ⟨g, k, none⟩ = some (.slice (some ⟨gk, 0, none⟩) m c) ∧ 1 ≤ m ∧ m ≤ c ∧ c ≤ maxLen ∧ B ≤ gk ∧ gk < w.heap.size ∧
      m = T[k].length ∧ InsO w B S (.slice (some ⟨gk, 0, none⟩) m c) T[k] ∧ (∀ w' L', w.grownBy w' (some gk) → InsO w' B S (.slice (some ⟨gk, 0, none⟩) m c) L' → ThsO w' B S v (T.set k L')) := by
  obtain ⟨g, cap, a, c, e1, e2, e3, e4, e5, e6, -, hI, hset, -⟩ := h.thread hS k hk
  obtain ⟨gk, rfl, hz⟩ : ∃ gk, a = some ⟨gk, 0, none⟩ ∧ T[k].length ≤ c ∧ c ≤ maxLen := by
    obtain ⟨LL, h1, ⟨_, h⟩, -⟩ := hI
    rcases h with ⟨e, h0'⟩ | ⟨g', cap', cur, e, -, -, hle, hcm, -⟩
    · exact absurd (by rw [h1, List.length_map]; exact h0') h0
    · simp only [Value.slice.injEq] at e
      obtain ⟨ea, el, ec⟩ := e
      exact ⟨g', ea, by omega, by omega⟩
  have ho := hI.own gk rfl
  exact ⟨g, cap, gk, T[k].length, c, e1, e2, e3, e4, e5, e6, by omega, hz.1, hz.2, ho.1, ho.2, rfl, hI, fun w' L' => hset gk w' L' rfl⟩

/-- Code that may be told of. -/
theorem ThsO.told {w : World} {B : Nat} {S : Nat → Prop} {v : Value} {T : List (List Ins)} {cap : Nat} {a : Option Addr} {n : Nat} (h : ThsO w B S v T) (hS : ∀ b, S b → b < B) (hB : B ≤ w.heap.size) (hv : v = .slice a n cap) : ∃ T', ThsIn w (In_ w) a n cap T' := by
  obtain ⟨a', cap', e, ht⟩ := h.ths
  rw [hv] at e
  simp only [Value.slice.injEq] at e
  obtain ⟨rfl, rfl, rfl⟩ := e
  exact ⟨T, ht.widen fun b hb => by
    rcases hb with hb | hb
    · have := hS b hb; show b < _; omega
    · exact hb.2⟩

/-- A cell of an instruction may be written, and code it stays. -/
structure Spo (w : World) (B : Nat) (S : Nat → Prop) (v : Value) (gk m c : Nat) : Prop where
  own : B ≤ gk ∧ gk < w.heap.size
  ins : ∃ L, L.length = m ∧ InsO w B S (.slice (some ⟨gk, 0, none⟩) m c) L
  ths : ∀ w' L', w.grownBy w' (some gk) → L'.length = m → InsO w' B S (.slice (some ⟨gk, 0, none⟩) m c) L' → ∃ T', ThsO w' B S v T'
namespace Spo
variable {w : World} {B : Nat} {S : Nat → Prop} {v : Value} {gk m c : Nat}
theorem put (h : Spo w B S v gk m c) (hS : ∀ b, S b → b < B) (i j : Nat) (hi : i < m) (hj : j < 12) (u : Value) (f : Ins × V8 → Ins × V8) (hf : ∀ y, insC (f y) = (insC y).set j u) (hE : ∀ (W : World) y, InsE W S y → InsE W S (f y)) :
    Spo (w.setCell ⟨gk, i * 12 + j, none⟩ u) B S v gk m c ∧ w.frozen? ⟨gk, i * 12 + j, none⟩ = false ∧ w.grownBy (w.setCell ⟨gk, i * 12 + j, none⟩ u) (some gk) := by
  obtain ⟨L, hL, hI⟩ := h.ins
  obtain ⟨⟨L', hL', hI'⟩, hg, hfr⟩ := hI.cellSet hS i j (by omega) hj u f hf hE
  refine ⟨⟨⟨h.own.1, by have := h.own.2; simpa using this⟩, ⟨L', by omega, hI'⟩, fun w' L2 hg2 hL2 hI2 => h.ths w' L2 ⟨hg2.os.trans hg.os, hg2.tape.trans hg.tape, hg2.output.trans hg.output, Nat.le_trans hg.size hg2.size, fun k hk hne => (hg2.block k (Nat.lt_of_lt_of_le hk hg.size) hne).trans (hg.block k hk hne)⟩ hL2 hI2⟩, hfr, hg⟩
theorem done (h : Spo w B S v gk m c) : ∃ T', ThsO w B S v T' := by
  obtain ⟨L, hL, hI⟩ := h.ins
  exact h.ths w L ⟨rfl, rfl, rfl, Nat.le_refl _, fun _ _ _ => rfl⟩ hL hI
end Spo
theorem ThsO.spo {w : World} {B : Nat} {S : Nat → Prop} {v : Value} {T : List (List Ins)} {gk m c k : Nat} (hown : B ≤ gk ∧ gk < w.heap.size) (hm : m = (T[k]?.getD []).length) (hI : InsO w B S (.slice (some ⟨gk, 0, none⟩) m c) (T[k]?.getD []))
    (h : ∀ w' L', w.grownBy w' (some gk) → InsO w' B S (.slice (some ⟨gk, 0, none⟩) m c) L' → ThsO w' B S v (T.set k L')) : Spo w B S v gk m c :=
  ⟨hown, ⟨_, hm.symm, hI⟩, fun w' L' hg _ hI' => ⟨_, h w' L' hg hI'⟩⟩

theorem gb2 {w w1 w2 : World} {r : Option Nat} (h : w.grownBy w1 r) (k : w1.grownBy w2 r) : w.grownBy w2 r :=
  ⟨k.os.trans h.os, k.tape.trans h.tape, k.output.trans h.output, Nat.le_trans h.size k.size, fun i hi hne => (k.block i (Nat.lt_of_lt_of_le hi h.size) hne).trans (h.block i hi hne)⟩
theorem gb_trans {w w1 w2 : World} {r : Option Nat} (h : w.grownBy w1 none) (k : w1.grownBy w2 r) : w.grownBy w2 r :=
  ⟨k.os.trans h.os, k.tape.trans h.tape, k.output.trans h.output, Nat.le_trans h.size k.size, fun i hi hne => (k.block i (Nat.lt_of_lt_of_le hi h.size) hne).trans (h.block i hi (by simp))⟩
theorem Spo.keep {w w' : World} {B : Nat} {S : Nat → Prop} {v : Value} {gk m c : Nat} (h : Spo w B S v gk m c) (hS : ∀ b, S b → b < w.heap.size) (hg : w.grownBy w' none) : Spo w' B S v gk m c := by
  obtain ⟨L, hL, hI⟩ := h.ins
  exact ⟨⟨h.own.1, Nat.lt_of_lt_of_le h.own.2 hg.size⟩, ⟨L, hL, hI.kept hg (.inr (by simp [Value.ownBlock])) fun b hb => ⟨hS b hb, by simp⟩⟩, fun w2 L2 hg2 hL2 hI2 => h.ths w2 L2 (gb_trans hg hg2) hL2 hI2⟩
theorem own_ne {w : World} {B : Nat} {T T' : TypeId} {sz n : Nat} {v : Value} {xs : List Value} {cb : Nat} {x : Array Value} {fz : Nat × Nat} (h : w.ownsRow B T sz v n xs) (hc : w.heap[cb]? = some (.cells x T' fz)) (hT : T' ≠ T) : v.ownBlock ≠ some cb := by
  obtain ⟨_, h⟩ := h
  rcases h with ⟨rfl, -⟩ | ⟨g', cap', cur, rfl, -, hg, -⟩
  · intro e; cases e
  · intro e
    have e' : g' = cb := by simpa [Value.ownBlock] using e
    subst e'
    rw [hg] at hc
    injection hc with hc
    injection hc with _ hc _
    exact hT hc.symm
theorem Spo.ne {w : World} {B : Nat} {S : Nat → Prop} {v : Value} {gk m c cb : Nat} {x : Array Value} {T : TypeId} {fz : Nat × Nat} (h : Spo w B S v gk m c) (hc : w.heap[cb]? = some (.cells x T fz)) (hT : T ≠ 48) : cb ≠ gk := by
  obtain ⟨L, hL, LL, rfl, h1, -⟩ := h.ins
  intro e
  exact own_ne h1 hc hT (by rw [e]; rfl)
theorem ThsO.aside {w w' : World} {B : Nat} {S : Nat → Prop} {v : Value} {T : List (List Ins)} {cb : Nat} {x : Array Value} {fz : Nat × Nat} (h : ThsO w B S v T) (hc : w.heap[cb]? = some (.cells x 30 fz)) (hg : w.grownBy w' (some cb)) (hS : ∀ b, S b → b < w.heap.size ∧ b ≠ cb) : ThsO w' B S v T := by
  obtain ⟨LL, h0, h1, h2, h3, h4⟩ := h
  refine ⟨LL, h0, h1.kept hg (.inr (own_ne h1 hc (by decide))), fun y hy => ?_, h3, h4⟩
  obtain ⟨L2, e2, h5, h6⟩ := h2 y hy
  exact InsO.kept ⟨L2, e2, h5, h6⟩ hg (.inr (own_ne h5 hc (by decide))) fun b hb => ⟨(hS b hb).1, by have := (hS b hb).2; simpa using this⟩
theorem exIn_k {w : World} {S : Nat → Prop} {u0 u1 u2 u3 : Value} {x : Ex} (h : ExIn w S [u0, u1, u2, u3] x) : ExIn w S [.int .i64 1, u1, u2, u3] (.mk 1 x.num x.op x.kids) := by
  cases h with
  | mk k n o a cap l cs wk wn wo hs hk => exact .mk 1 n o a cap l cs rfl wn wo hs hk
theorem exIn_n {w : World} {S : Nat → Prop} {u0 u1 u2 u3 : Value} {x : Ex} {n : Int} (hn : (Lit.int .i64 n).wf = true) (h : ExIn w S [u0, u1, u2, u3] x) : ExIn w S [u0, .int .i64 n, u2, u3] (.mk x.kind n x.op x.kids) := by
  cases h with
  | mk k _ o a cap l cs wk wn wo hs hk => exact .mk k n o a cap l cs wk hn wo hs hk
theorem exIn_o {w : World} {S : Nat → Prop} {u0 u1 u2 u3 : Value} {x : Ex} (h : ExIn w S [u0, u1, u2, u3] x) : ExIn w S [u0, u1, .int .u8 0, u3] (.mk x.kind x.num 0 x.kids) := by
  cases h with
  | mk k n o a cap l cs wk wn wo hs hk => exact .mk k n 0 a cap l cs wk wn rfl hs hk
theorem exIn_s {w : World} {S : Nat → Prop} {u0 u1 u2 u3 : Value} {x : Ex} (h : ExIn w S [u0, u1, u2, u3] x) : ExIn w S [u0, u1, u2, .slice none 0 0] (.mk x.kind x.num x.op []) := by
  cases h with
  | mk k n o a cap l cs wk wn wo hs hk => exact ExIn.leaf _ _ k n o wk wn wo
theorem Spo.at_ {w : World} {B : Nat} {S : Nat → Prop} {v : Value} {gk m c : Nat} (h : Spo w B S v gk m c) (i j : Nat) (hi : i < m) (hj : j < 12) : (∃ u, w.cell? ⟨gk, i * 12 + j, none⟩ = some u) ∧ w.frozen? ⟨gk, i * 12 + j, none⟩ = false := by
  obtain ⟨L, hL, LL, rfl, h1, -⟩ := h.ins
  have hm : m = LL.length := by simpa using hL.symm
  subst hm
  have hlt : i * 12 + j < LL.length * 12 := by omega
  refine ⟨?_, h1.frozenAt _⟩
  rw [h1.cellAt _ hlt]
  have := flat_size insC 12 insC_len LL
  exact ⟨_, List.getElem?_eq_getElem (by omega)⟩
/-- Code of which something has been spoilt. -/
def SpD (w W : World) (cb : Nat) : Prop :=
  ∃ (vars dom : Int) (a : Option Addr) (n cap : Nat) (T : List (List Ins)), W.cell? ⟨cb, 0, none⟩ = some (.int .i64 vars) ∧ W.cell? ⟨cb, 1, none⟩ = some (.int .i64 dom) ∧ W.cell? ⟨cb, 2, none⟩ = some (.slice a n cap) ∧ ThsIn W (In_ W) a n cap T ∧ cb < W.heap.size ∧ Below w.heap.size w W
theorem SpD.of {w V W : World} {B cb gk m c : Nat} {S : Nat → Prop} {a : Option Addr} {n cap : Nat} {vars dom : Int} (h : Spo W B S (.slice a n cap) gk m c) (hS : ∀ b, S b → b < B) (hg : V.grownBy W (some gk)) (hne : cb ≠ gk) (hcb : cb < V.heap.size) (hw : w.heap.size ≤ gk)
    (h0 : V.cell? ⟨cb, 0, none⟩ = some (.int .i64 vars)) (h1 : V.cell? ⟨cb, 1, none⟩ = some (.int .i64 dom)) (h2 : V.cell? ⟨cb, 2, none⟩ = some (.slice a n cap)) (hB : Below w.heap.size w V) : SpD w W cb := by
  obtain ⟨T, hT⟩ := h.done
  obtain ⟨T', hT'⟩ := hT.told hS (Nat.le_of_lt (Nat.lt_of_le_of_lt h.own.1 h.own.2)) rfl
  have hb := hg.block cb hcb (by simpa using hne)
  exact ⟨vars, dom, a, n, cap, T', (World.cell?_of_block (a := ⟨cb, 0, none⟩) hb).trans h0, (World.cell?_of_block (a := ⟨cb, 1, none⟩) hb).trans h1, (World.cell?_of_block (a := ⟨cb, 2, none⟩) hb).trans h2, hT', Nat.lt_of_lt_of_le hcb hg.size,
    hB.trans ⟨hg.os, hg.tape, hg.output, hg.size, fun k hk => hg.block k (by have := hB.size; omega) (by simp; omega)⟩⟩
theorem SpD.code {w V W : World} {B cb o gk m c : Nat} {S : Nat → Prop} {a : Option Addr} {n cap : Nat} {vars' dom' : Int} {x : Array Value} {fz : Nat × Nat} {u : Value} (h : Spo V B S (.slice a n cap) gk m c) (hS : ∀ b, S b → b < B) (hW : W = V.setCell ⟨cb, o, none⟩ u) (hc : V.heap[cb]? = some (.cells x 30 fz)) (hBc : B ≤ cb) (hw : w.heap.size ≤ cb)
    (h0 : W.cell? ⟨cb, 0, none⟩ = some (.int .i64 vars')) (h1 : W.cell? ⟨cb, 1, none⟩ = some (.int .i64 dom')) (h2 : W.cell? ⟨cb, 2, none⟩ = some (.slice a n cap)) (hB : Below w.heap.size w V) : SpD w W cb := by
  subst hW
  obtain ⟨T, hT⟩ := h.done
  have hcb : cb < V.heap.size := (Array.getElem?_eq_some_iff.1 hc).1
  have hg : V.grownBy (V.setCell ⟨cb, o, none⟩ u) (some cb) := ⟨rfl, rfl, rfl, by simp, fun k _ hk => Below.heap_setCell _ _ _ _ (by intro e; exact hk (by rw [e]))⟩
  obtain ⟨T', hT'⟩ := (hT.aside hc hg fun b hb => ⟨by have := hS b hb; omega, by have := hS b hb; omega⟩).told hS (by simp; omega) rfl
  exact ⟨vars', dom', a, n, cap, T', h0, h1, h2, hT', by simpa using hcb, hB.setCell (p := ⟨cb, o, none⟩) hw _⟩

set_option maxRecDepth 100000 in
set_option maxHeartbeats 16000000 in
theorem codeSpoilt_walk (la : Option Addr) (ln lc : Nat) (how at_ : Nat) (n : Int) (w : World) (hl : U8s w (In_ w) la ln lc) (hhow : how < 256) (hat : at_ < 256) (hn : (Lit.int .i64 n).wf = true) :
    Calls Tryz.prog 6 #[.slice la ln lc, .int .u8 how, .int .u8 at_, .int .i64 n] w fun e w' => e = .returned (.bool true) ∧ Below w.heap.size w w' := by
  have Hl := hid hl
  have Hn := hid hn
  clear hl hn
  go_enter Tryz.func6, Tryz.ntmps6
  go_wp2_with fail
  refine (kinds_any w).mono ?_
  rintro e w1 ⟨rfl, hK1, hb1⟩
  have s1 := hb1.size
  have HK1 := hid (Kp.of hb1)
  have hl1 : U8s w1 (In_ w1) la ln lc := (Hl.out.keep fun b o hb => HK1.out.2 b o hb).widen (In_.mono HK1.out.1.size)
  have hmade := hid (madeC_any w1 la ln lc _ 13 13 hl1 hK1)
  clear hl1 hK1 hb1 Hl
  go_wp2_with fail
  refine hmade.out.mono ?_
  intro e w2 hp2
  obtain ⟨p, n0, v, rfl, hright, ht1, ht3, hv3, hT, hn0, hn1, hb2⟩ := hp2
  have HK2 := hid (HK1.out.next hb2)
  have htl : (cmpT p.ths).length = p.ths.length := by simp [cmpT]
  rw [← htl] at ht1 ht3
  clear htl hb2 hmade HK1 hright
  generalize cmpT p.ths = T at *
  generalize p.vars.length = vars at *
  generalize p.dom = dom at *
  have hS : ∀ b, (fun b => b < n0) b → b < n0 := fun _ h => h
  have k3 : (at_ : Int) % (T.length : Int) = ((at_ % T.length : Nat) : Int) := rfl
  have k4 : at_ % T.length < T.length := Nat.mod_lt _ (by omega)
  have k7 : IntKind.i64.wrap (at_ : Int) = (at_ : Int) := IntWalk.i64_in _ (by omega)
  obtain ⟨j3, hj3⟩ : ∃ j, j = at_ / 3 := ⟨_, rfl⟩
  have k8 : IntKind.i64.wrap ((at_ : Int) / 3) = (j3 : Int) := (IntWalk.i64_in _ (by omega)).trans (by omega)
  have k9 : j3 < 256 := by omega
  clear hj3
  generalize at_ % T.length = k at *
  obtain ⟨va, vc, rfl⟩ := hT.sl
  generalize hW : w2.alloc (.cells #[.int .i64 vars, .int .i64 dom, .slice va T.length vc] 30) = W0
  have hB : Below w2.heap.size w2 W0 := by subst hW; exact (Below.refl _ _).alloc (Nat.le_refl _) _
  have z0 : w2.heap.size < W0.heap.size := by subst hW; simp
  have c0 : W0.cell? ⟨w2.heap.size, 0, none⟩ = some (.int .i64 vars) := by subst hW; go_simp
  have c1 : W0.cell? ⟨w2.heap.size, 1, none⟩ = some (.int .i64 dom) := by subst hW; go_simp
  have c2 : W0.cell? ⟨w2.heap.size, 2, none⟩ = some (.slice va T.length vc) := by subst hW; go_simp
  have hR0 : Hid (W0.heap[w2.heap.size]? = some (.cells #[.int .i64 vars, .int .i64 dom, .slice va T.length vc] 30 (0, 0))) := by subst hW; exact heap_alloc_new w2 _
  have cf0 : W0.frozen? ⟨w2.heap.size, 0, none⟩ = false := by subst hW; go_simp
  have cf1 : W0.frozen? ⟨w2.heap.size, 1, none⟩ = false := by subst hW; go_simp
  have hT0 := hT.later (n := w2.heap.size) hB (Nat.le_refl _) fun b hb => by omega
  obtain ⟨g, cap, ak, ck, e, gl, gm, gB, gw, gc, gf, hI, hset, hnew⟩ := hT0.thread hS k k4
  simp only [Value.slice.injEq, true_and] at e
  obtain ⟨rfl, rfl⟩ := e
  have gw2 : g < w2.heap.size := (hT.own g rfl).2
  unfold maxLen at gm
  have HB := hid (HK2.out.next hB)
  have hWx := hid hW
  have HT0 := hid hT0
  have Hnew := hid hnew
  have hIl := hI.row
  have Hz : Hid (T[k].length ≤ ck ∧ ck ≤ 9223372036854775807) := by
    obtain ⟨a', c', e, hr⟩ := hIl
    simp only [Value.slice.injEq, true_and] at e
    obtain ⟨rfl, rfl⟩ := e
    exact ⟨hr.le, by have := hr.mx; unfold maxLen at this; omega⟩
  obtain ⟨z2, z3⟩ := Hz.out
  clear hW hB hT hT0 hI hset hnew hIl HK2
  have hlit : InsE W0 (fun b => b < n0) (⟨4, 0, 0, exZ, exZ, 0⟩, ⟨.int .i64 0, .int .i64 0, .int .u8 0, .slice none 0 0, .int .i64 0, .int .i64 0, .int .u8 0, .slice none 0 0⟩) := ⟨ExIn.leaf _ _ 0 0 0 rfl rfl rfl, ExIn.leaf _ _ 0 0 0 rfl rfl rfl⟩
  have hnew2 := Hnew.out (.cells #[.int .i64 4, .int .i64 0, .int .i64 0, .int .i64 0, .int .i64 0, .int .u8 0, .slice none 0 0, .int .i64 0, .int .i64 0, .int .u8 0, .slice none 0 0, .int .i64 0] 48) _ _ (InsO.lit hlit (by omega) fun b hb => by have hb' : b < n0 := hb; omega) rfl
  rw [World.setCell_alloc_past _ _ _ _ gw] at hnew2
  generalize hV : (W0.setCell ⟨g, k, none⟩ (.slice (some ⟨W0.heap.size, 0, none⟩) 1 1)).alloc (.cells #[.int .i64 4, .int .i64 0, .int .i64 0, .int .i64 0, .int .i64 0, .int .u8 0, .slice none 0 0, .int .i64 0, .int .i64 0, .int .u8 0, .slice none 0 0, .int .i64 0] 48) = V1 at hnew2
  have hBV : Below g W0 V1 := by subst hV; exact ((Below.refl g W0).setCell (p := ⟨g, k, none⟩) (Nat.le_refl _) _).alloc (by simp; omega) _
  have v0 : V1.cell? ⟨w2.heap.size, 0, none⟩ = some (.int .i64 vars) := by subst hV; go_simp
  have v1 : V1.cell? ⟨w2.heap.size, 1, none⟩ = some (.int .i64 dom) := by subst hV; go_simp
  have v2 : V1.cell? ⟨w2.heap.size, 2, none⟩ = some (.slice (some ⟨g, 0, none⟩) T.length vc) := by subst hV; go_simp
  have vf0 : V1.frozen? ⟨w2.heap.size, 0, none⟩ = false := by subst hV; go_simp
  have vf1 : V1.frozen? ⟨w2.heap.size, 1, none⟩ = false := by subst hV; go_simp
  have hR1 : Hid (V1.heap[w2.heap.size]? = some (.cells #[.int .i64 vars, .int .i64 dom, .slice (some ⟨g, 0, none⟩) T.length vc] 30 (0, 0))) := by
    subst hV
    refine ((World.grownBy_alloc _ _ none).block _ (by simp; omega) (by simp)).trans ?_
    exact (Below.heap_setCell _ _ _ _ (by simp; omega)).trans hR0.out
  have vz : w2.heap.size < V1.heap.size := by subst hV; simp; omega
  have Vf := hid (And.intro v0 (And.intro v1 (And.intro v2 (And.intro vf0 (And.intro vf1 vz)))))
  have hVx := hid hV
  have Hnew2 := hid hnew2
  clear hV hnew2 hlit Hnew
  have HBw : Hid (Below w.heap.size w W0) := HB.out.1
  have HBV : Hid (Below w.heap.size w V1) := HB.out.1.trans (hBV.mono (by omega))
  clear HB hBV
  by_cases h0 : T[k].length = 0
  · rw [h0] at gc
    go_upto_region 3 with fail
    rw [hWx.out, k3]
    clear v0 v1 v2 vf0 vf1 vz
    go_upto_region 5 with fail
    rw [hVx.out]
    obtain ⟨T1, hT1, hT1l, hT1k⟩ : ∃ T1, ThsO V1 n0 (fun b => b < n0) (.slice (some ⟨g, 0, none⟩) T.length vc) T1 ∧ T1.length = T.length ∧ ∀ h : k < T1.length, T1[k].length ≠ 0 := ⟨_, Hnew2.out, by simp, fun h => by simp⟩
    obtain ⟨v0, v1, v2, vf0, vf1, vz⟩ := Vf.out
    clear c0 c1 c2 cf0 cf1 z0 gw hVx Hnew2 HBw gc gf HT0 Hz z2 z3 Vf
    obtain ⟨g2, cap2, gk, m, c, e, -, -, -, -, gc2, m1, m2, m3, gkB, gkw, hml, hI, hset⟩ := hT1.row1 hS k (by omega) (hT1k _)
    simp only [Value.slice.injEq, Option.some.injEq, Addr.mk.injEq, and_true] at e
    obtain ⟨rfl, -, rfl⟩ := e
    have hsp : Spo V1 n0 (fun b => b < n0) (.slice (some ⟨g, 0, none⟩) T.length vc) gk m c := ⟨⟨gkB, gkw⟩, ⟨_, hml.symm, hI⟩, fun w' L' hg _ hI' => ⟨_, hset w' L' hg hI'⟩⟩
    have Hsp := hid hsp
    clear hsp hset hI hml hT1 hT1l hT1k
    have q1 : (0 : Int) ≤ (j3 : Int) % (m : Int) := Int.emod_nonneg _ (by omega)
    have q2 : (j3 : Int) % (m : Int) < (m : Int) := Int.emod_lt_of_pos _ (by omega)
    have qm : m ≠ 0 := by omega
    go_quiet (fail)
    generalize hi : j3 % m = i
    have him : i < m := by rw [← hi]; exact Nat.mod_lt _ (by omega)
    generalize hVd : V1.drewN nq = V
    have gV : V1.grownBy V none := by subst hVd; exact ⟨rfl, rfl, rfl, Nat.le_refl _, fun _ _ _ => rfl⟩
    have HS2 := hid (Hsp.out.keep (fun b hb => by have hb' : b < n0 := hb; omega) gV)
    have HRV := hid ((gV.block _ vz (by simp)).trans hR1.out)
    have x0 : V.cell? ⟨w2.heap.size, 0, none⟩ = some (.int .i64 vars) := by subst hVd; exact v0
    have x1 : V.cell? ⟨w2.heap.size, 1, none⟩ = some (.int .i64 dom) := by subst hVd; exact v1
    have x2 : V.cell? ⟨w2.heap.size, 2, none⟩ = some (.slice (some ⟨g, 0, none⟩) T.length vc) := by subst hVd; exact v2
    have f0 : V.frozen? ⟨w2.heap.size, 0, none⟩ = false := by subst hVd; exact vf0
    have f1 : V.frozen? ⟨w2.heap.size, 1, none⟩ = false := by subst hVd; exact vf1
    have xz : w2.heap.size < V.heap.size := by have := gV.size; omega
    have HBx : Hid (Below w.heap.size w V) := HBV.out.trans ⟨gV.os, gV.tape, gV.output, gV.size, fun k hk => gV.block k (by omega) (by simp)⟩
    have hgv : gk < V.heap.size := HS2.out.own.2
    have hne : w2.heap.size ≠ gk := HS2.out.ne HRV.out (by decide)
    clear hVd gV hi q1 q2 v0 v1 v2 vf0 vf1 Hsp HBV
    have h7 : (how : Int) % 7 = 0 ∨ (how : Int) % 7 = 1 ∨ (how : Int) % 7 = 2 ∨ (how : Int) % 7 = 3 ∨ (how : Int) % 7 = 4 ∨ (how : Int) % 7 = 5 ∨ (how : Int) % 7 = 6 := by omega
    rcases h7 with h7 | h7 | h7 | h7 | h7 | h7 | h7
    · obtain ⟨⟨u, y0⟩, y1⟩ := HS2.out.at_ i 0 him (by omega)
      simp only [Nat.add_zero] at y0 y1
      go_upto_region 20 with fail
      have hp := HS2.out.put hS i 0 him (by omega) (.int .i64 n) (fun y => ({ y.1 with op := n }, y.2)) (fun _ => rfl) (fun _ _ h => h)
      simp only [Nat.add_zero] at hp
      have hD := hid (SpD.of hp.1 hS hp.2.2 hne xz (by omega) x0 x1 x2 HBx.out)
      generalize V.setCell ⟨gk, i * 12, none⟩ (.int .i64 n) = W9 at hD ⊢
      clear y0 y1 hp x0 x1 x2 f0 f1
      obtain ⟨vars', dom', a9, n9, cap9, T9, d0, d1, d2, d3, d4, d5⟩ := hD.out
      have D3 := hid d3
      have D5 := hid d5
      clear d3 d5 hD
      go_wp2_with fail
      refine (awake_any W9).mono ?_
      rintro e w7 ⟨rfl, hb7⟩
      have hK7 : Kp W9 w7 := Kp.of hb7
      have e0 := (hK7.2 _ 0 d4).trans d0
      have e1 := (hK7.2 _ 1 d4).trans d1
      have e2 := (hK7.2 _ 2 d4).trans d2
      have e4 := Nat.lt_of_lt_of_le d4 hb7.size
      have ht := hid (told_any vars' dom' a9 n9 cap9 T9 w7 (hK7.ths D3.out))
      have HB7 := hid (D5.out.trans (hb7.mono D5.out.size))
      clear d0 d1 d2 d4 hK7 hb7 D3 D5
      go_wp2_with fail
      refine ht.out.mono ?_
      rintro e w8 ⟨rfl, hb8⟩
      have HB8 := hid (HB7.out.trans (hb8.mono HB7.out.size))
      clear hb8
      go_wp2_with fail
      go_ret
      exact ⟨rfl, HB8.out⟩
    · obtain ⟨⟨u, y0⟩, y1⟩ := HS2.out.at_ i 11 him (by omega)
      go_upto_region 20 with fail
      have hp := HS2.out.put hS i 11 him (by omega) (.int .i64 n) (fun y => (⟨y.1.op, y.1.reg, y.1.v, y.1.a, y.1.b, n⟩, y.2)) (fun _ => rfl) (fun _ _ h => h)
      have hD := hid (SpD.of hp.1 hS hp.2.2 hne xz (by omega) x0 x1 x2 HBx.out)
      generalize V.setCell ⟨gk, i * 12 + 11, none⟩ (.int .i64 n) = W9 at hD ⊢
      clear y0 y1 hp x0 x1 x2 f0 f1
      obtain ⟨vars', dom', a9, n9, cap9, T9, d0, d1, d2, d3, d4, d5⟩ := hD.out
      have D3 := hid d3
      have D5 := hid d5
      clear d3 d5 hD
      go_wp2_with fail
      refine (awake_any W9).mono ?_
      rintro e w7 ⟨rfl, hb7⟩
      have hK7 : Kp W9 w7 := Kp.of hb7
      have e0 := (hK7.2 _ 0 d4).trans d0
      have e1 := (hK7.2 _ 1 d4).trans d1
      have e2 := (hK7.2 _ 2 d4).trans d2
      have e4 := Nat.lt_of_lt_of_le d4 hb7.size
      have ht := hid (told_any vars' dom' a9 n9 cap9 T9 w7 (hK7.ths D3.out))
      have HB7 := hid (D5.out.trans (hb7.mono D5.out.size))
      clear d0 d1 d2 d4 hK7 hb7 D3 D5
      go_wp2_with fail
      refine ht.out.mono ?_
      rintro e w8 ⟨rfl, hb8⟩
      have HB8 := hid (HB7.out.trans (hb8.mono HB7.out.size))
      clear hb8
      go_wp2_with fail
      go_ret
      exact ⟨rfl, HB8.out⟩
    · obtain ⟨⟨u, y0⟩, y1⟩ := HS2.out.at_ i 2 him (by omega)
      go_upto_region 20 with fail
      have hp := HS2.out.put hS i 2 him (by omega) (.int .i64 n) (fun y => ({ y.1 with v := n }, y.2)) (fun _ => rfl) (fun _ _ h => h)
      have hD := hid (SpD.of hp.1 hS hp.2.2 hne xz (by omega) x0 x1 x2 HBx.out)
      generalize V.setCell ⟨gk, i * 12 + 2, none⟩ (.int .i64 n) = W9 at hD ⊢
      clear y0 y1 hp x0 x1 x2 f0 f1
      obtain ⟨vars', dom', a9, n9, cap9, T9, d0, d1, d2, d3, d4, d5⟩ := hD.out
      have D3 := hid d3
      have D5 := hid d5
      clear d3 d5 hD
      go_wp2_with fail
      refine (awake_any W9).mono ?_
      rintro e w7 ⟨rfl, hb7⟩
      have hK7 : Kp W9 w7 := Kp.of hb7
      have e0 := (hK7.2 _ 0 d4).trans d0
      have e1 := (hK7.2 _ 1 d4).trans d1
      have e2 := (hK7.2 _ 2 d4).trans d2
      have e4 := Nat.lt_of_lt_of_le d4 hb7.size
      have ht := hid (told_any vars' dom' a9 n9 cap9 T9 w7 (hK7.ths D3.out))
      have HB7 := hid (D5.out.trans (hb7.mono D5.out.size))
      clear d0 d1 d2 d4 hK7 hb7 D3 D5
      go_wp2_with fail
      refine ht.out.mono ?_
      rintro e w8 ⟨rfl, hb8⟩
      have HB8 := hid (HB7.out.trans (hb8.mono HB7.out.size))
      clear hb8
      go_wp2_with fail
      go_ret
      exact ⟨rfl, HB8.out⟩
    · obtain ⟨⟨u, y0⟩, y1⟩ := HS2.out.at_ i 1 him (by omega)
      go_upto_region 20 with fail
      have hp := HS2.out.put hS i 1 him (by omega) (.int .i64 n) (fun y => ({ y.1 with reg := n }, y.2)) (fun _ => rfl) (fun _ _ h => h)
      have hD := hid (SpD.of hp.1 hS hp.2.2 hne xz (by omega) x0 x1 x2 HBx.out)
      generalize V.setCell ⟨gk, i * 12 + 1, none⟩ (.int .i64 n) = W9 at hD ⊢
      clear y0 y1 hp x0 x1 x2 f0 f1
      obtain ⟨vars', dom', a9, n9, cap9, T9, d0, d1, d2, d3, d4, d5⟩ := hD.out
      have D3 := hid d3
      have D5 := hid d5
      clear d3 d5 hD
      go_wp2_with fail
      refine (awake_any W9).mono ?_
      rintro e w7 ⟨rfl, hb7⟩
      have hK7 : Kp W9 w7 := Kp.of hb7
      have e0 := (hK7.2 _ 0 d4).trans d0
      have e1 := (hK7.2 _ 1 d4).trans d1
      have e2 := (hK7.2 _ 2 d4).trans d2
      have e4 := Nat.lt_of_lt_of_le d4 hb7.size
      have ht := hid (told_any vars' dom' a9 n9 cap9 T9 w7 (hK7.ths D3.out))
      have HB7 := hid (D5.out.trans (hb7.mono D5.out.size))
      clear d0 d1 d2 d4 hK7 hb7 D3 D5
      go_wp2_with fail
      refine ht.out.mono ?_
      rintro e w8 ⟨rfl, hb8⟩
      have HB8 := hid (HB7.out.trans (hb8.mono HB7.out.size))
      clear hb8
      go_wp2_with fail
      go_ret
      exact ⟨rfl, HB8.out⟩
    · obtain ⟨⟨u3, y0⟩, y1⟩ := HS2.out.at_ i 3 him (by omega)
      obtain ⟨⟨u4, y2⟩, y3⟩ := HS2.out.at_ i 4 him (by omega)
      obtain ⟨⟨u5, y4⟩, y5⟩ := HS2.out.at_ i 5 him (by omega)
      obtain ⟨⟨u6, y6⟩, y7⟩ := HS2.out.at_ i 6 him (by omega)
      go_upto_region 20 with fail
      have p1 := HS2.out.put hS i 3 him (by omega) (.int .i64 1) (fun y => ({ y.1 with a := .mk 1 y.1.a.num y.1.a.op y.1.a.kids }, { y.2 with u0 := .int .i64 1 })) (fun _ => rfl) (fun _ _ h => ⟨exIn_k h.1, h.2⟩)
      have p2 := p1.1.put hS i 4 him (by omega) (.int .i64 n) (fun y => ({ y.1 with a := .mk y.1.a.kind n y.1.a.op y.1.a.kids }, { y.2 with u1 := .int .i64 n })) (fun _ => rfl) (fun _ _ h => ⟨exIn_n Hn.out h.1, h.2⟩)
      have p3 := p2.1.put hS i 5 him (by omega) (.int .u8 0) (fun y => ({ y.1 with a := .mk y.1.a.kind y.1.a.num 0 y.1.a.kids }, { y.2 with u2 := .int .u8 0 })) (fun _ => rfl) (fun _ _ h => ⟨exIn_o h.1, h.2⟩)
      have p4 := p3.1.put hS i 6 him (by omega) (.slice none 0 0) (fun y => ({ y.1 with a := .mk y.1.a.kind y.1.a.num y.1.a.op [] }, { y.2 with u3 := .slice none 0 0 })) (fun _ => rfl) (fun _ _ h => ⟨exIn_s h.1, h.2⟩)
      have hD := hid (SpD.of p4.1 hS (gb2 (gb2 (gb2 p1.2.2 p2.2.2) p3.2.2) p4.2.2) hne xz (by omega) x0 x1 x2 HBx.out)
      simp only [Nat.add_assoc, Nat.reduceAdd]
      generalize (((V.setCell ⟨gk, i * 12 + 3, none⟩ (.int .i64 1)).setCell ⟨gk, i * 12 + 4, none⟩ (.int .i64 n)).setCell ⟨gk, i * 12 + 5, none⟩ (.int .u8 0)).setCell ⟨gk, i * 12 + 6, none⟩ (.slice none 0 0) = W9 at hD ⊢
      clear y0 y1 y2 y3 y4 y5 y6 y7 p1 p2 p3 p4 x0 x1 x2 f0 f1
      obtain ⟨vars', dom', a9, n9, cap9, T9, d0, d1, d2, d3, d4, d5⟩ := hD.out
      have D3 := hid d3
      have D5 := hid d5
      clear d3 d5 hD
      go_wp2_with fail
      refine (awake_any W9).mono ?_
      rintro e w7 ⟨rfl, hb7⟩
      have hK7 : Kp W9 w7 := Kp.of hb7
      have e0 := (hK7.2 _ 0 d4).trans d0
      have e1 := (hK7.2 _ 1 d4).trans d1
      have e2 := (hK7.2 _ 2 d4).trans d2
      have e4 := Nat.lt_of_lt_of_le d4 hb7.size
      have ht := hid (told_any vars' dom' a9 n9 cap9 T9 w7 (hK7.ths D3.out))
      have HB7 := hid (D5.out.trans (hb7.mono D5.out.size))
      clear d0 d1 d2 d4 hK7 hb7 D3 D5
      go_wp2_with fail
      refine ht.out.mono ?_
      rintro e w8 ⟨rfl, hb8⟩
      have HB8 := hid (HB7.out.trans (hb8.mono HB7.out.size))
      clear hb8
      go_wp2_with fail
      go_ret
      exact ⟨rfl, HB8.out⟩
    · go_upto_region 20 with fail
      obtain ⟨W9, hW9⟩ : ∃ W9, W9 = V.setCell ⟨w2.heap.size, 1, none⟩ (.int .i64 n) := ⟨_, rfl⟩
      have k0 : W9.cell? ⟨w2.heap.size, 0, none⟩ = some (.int .i64 (vars : Int)) := by subst hW9; go_simp
      have k1 : W9.cell? ⟨w2.heap.size, 1, none⟩ = some (.int .i64 n) := by subst hW9; go_simp
      have k2 : W9.cell? ⟨w2.heap.size, 2, none⟩ = some (.slice (some ⟨g, 0, none⟩) T.length vc) := by subst hW9; go_simp
      have hD := hid (SpD.code HS2.out hS hW9 HRV.out (by omega) (by omega) k0 k1 k2 HBx.out)
      rw [← hW9]
      clear hW9 k0 k1 k2 x0 x1 x2 f0 f1
      obtain ⟨vars', dom', a9, n9, cap9, T9, d0, d1, d2, d3, d4, d5⟩ := hD.out
      have D3 := hid d3
      have D5 := hid d5
      clear d3 d5 hD
      go_wp2_with fail
      refine (awake_any W9).mono ?_
      rintro e w7 ⟨rfl, hb7⟩
      have hK7 : Kp W9 w7 := Kp.of hb7
      have e0 := (hK7.2 _ 0 d4).trans d0
      have e1 := (hK7.2 _ 1 d4).trans d1
      have e2 := (hK7.2 _ 2 d4).trans d2
      have e4 := Nat.lt_of_lt_of_le d4 hb7.size
      have ht := hid (told_any vars' dom' a9 n9 cap9 T9 w7 (hK7.ths D3.out))
      have HB7 := hid (D5.out.trans (hb7.mono D5.out.size))
      clear d0 d1 d2 d4 hK7 hb7 D3 D5
      go_wp2_with fail
      refine ht.out.mono ?_
      rintro e w8 ⟨rfl, hb8⟩
      have HB8 := hid (HB7.out.trans (hb8.mono HB7.out.size))
      clear hb8
      go_wp2_with fail
      go_ret
      exact ⟨rfl, HB8.out⟩
    · go_upto_region 20 with fail
      obtain ⟨W9, hW9⟩ : ∃ W9, W9 = V.setCell ⟨w2.heap.size, 0, none⟩ (.int .i64 n) := ⟨_, rfl⟩
      have k0 : W9.cell? ⟨w2.heap.size, 0, none⟩ = some (.int .i64 n) := by subst hW9; go_simp
      have k1 : W9.cell? ⟨w2.heap.size, 1, none⟩ = some (.int .i64 dom) := by subst hW9; go_simp
      have k2 : W9.cell? ⟨w2.heap.size, 2, none⟩ = some (.slice (some ⟨g, 0, none⟩) T.length vc) := by subst hW9; go_simp
      have hD := hid (SpD.code HS2.out hS hW9 HRV.out (by omega) (by omega) k0 k1 k2 HBx.out)
      rw [← hW9]
      clear hW9 k0 k1 k2 x0 x1 x2 f0 f1
      obtain ⟨vars', dom', a9, n9, cap9, T9, d0, d1, d2, d3, d4, d5⟩ := hD.out
      have D3 := hid d3
      have D5 := hid d5
      clear d3 d5 hD
      go_wp2_with fail
      refine (awake_any W9).mono ?_
      rintro e w7 ⟨rfl, hb7⟩
      have hK7 : Kp W9 w7 := Kp.of hb7
      have e0 := (hK7.2 _ 0 d4).trans d0
      have e1 := (hK7.2 _ 1 d4).trans d1
      have e2 := (hK7.2 _ 2 d4).trans d2
      have e4 := Nat.lt_of_lt_of_le d4 hb7.size
      have ht := hid (told_any vars' dom' a9 n9 cap9 T9 w7 (hK7.ths D3.out))
      have HB7 := hid (D5.out.trans (hb7.mono D5.out.size))
      clear d0 d1 d2 d4 hK7 hb7 D3 D5
      go_wp2_with fail
      refine ht.out.mono ?_
      rintro e w8 ⟨rfl, hb8⟩
      have HB8 := hid (HB7.out.trans (hb8.mono HB7.out.size))
      clear hb8
      go_wp2_with fail
      go_ret
      exact ⟨rfl, HB8.out⟩
  · go_upto_region 3 with fail
    rw [hWx.out, k3]
    go_upto_region 5 with fail
    obtain ⟨T1, hT1, hT1l, hT1k⟩ : ∃ T1, ThsO W0 n0 (fun b => b < n0) (.slice (some ⟨g, 0, none⟩) T.length vc) T1 ∧ T1.length = T.length ∧ ∀ h : k < T1.length, T1[k].length ≠ 0 := ⟨T, HT0.out, rfl, fun _ => h0⟩
    clear v0 v1 v2 vf0 vf1 vz hVx Hnew2 HBV gc gf HT0 Hz z2 z3 Vf
    obtain ⟨g2, cap2, gk, m, c, e, -, -, -, -, gc2, m1, m2, m3, gkB, gkw, hml, hI, hset⟩ := hT1.row1 hS k (by omega) (hT1k _)
    simp only [Value.slice.injEq, Option.some.injEq, Addr.mk.injEq, and_true] at e
    obtain ⟨rfl, -, rfl⟩ := e
    have hsp : Spo W0 n0 (fun b => b < n0) (.slice (some ⟨g, 0, none⟩) T.length vc) gk m c := ⟨⟨gkB, gkw⟩, ⟨_, hml.symm, hI⟩, fun w' L' hg _ hI' => ⟨_, hset w' L' hg hI'⟩⟩
    have Hsp := hid hsp
    clear hsp hset hI hml hT1 hT1l hT1k
    have q1 : (0 : Int) ≤ (j3 : Int) % (m : Int) := Int.emod_nonneg _ (by omega)
    have q2 : (j3 : Int) % (m : Int) < (m : Int) := Int.emod_lt_of_pos _ (by omega)
    have qm : m ≠ 0 := by omega
    go_quiet (fail)
    generalize hi : j3 % m = i
    have him : i < m := by rw [← hi]; exact Nat.mod_lt _ (by omega)
    generalize hVd : W0.drewN nq = V
    have gV : W0.grownBy V none := by subst hVd; exact ⟨rfl, rfl, rfl, Nat.le_refl _, fun _ _ _ => rfl⟩
    have HS2 := hid (Hsp.out.keep (fun b hb => by have hb' : b < n0 := hb; omega) gV)
    have HRV := hid ((gV.block _ z0 (by simp)).trans hR0.out)
    have x0 : V.cell? ⟨w2.heap.size, 0, none⟩ = some (.int .i64 vars) := by subst hVd; exact c0
    have x1 : V.cell? ⟨w2.heap.size, 1, none⟩ = some (.int .i64 dom) := by subst hVd; exact c1
    have x2 : V.cell? ⟨w2.heap.size, 2, none⟩ = some (.slice (some ⟨g, 0, none⟩) T.length vc) := by subst hVd; exact c2
    have f0 : V.frozen? ⟨w2.heap.size, 0, none⟩ = false := by subst hVd; exact cf0
    have f1 : V.frozen? ⟨w2.heap.size, 1, none⟩ = false := by subst hVd; exact cf1
    have xz : w2.heap.size < V.heap.size := by have := gV.size; omega
    have HBx : Hid (Below w.heap.size w V) := HBw.out.trans ⟨gV.os, gV.tape, gV.output, gV.size, fun k hk => gV.block k (by omega) (by simp)⟩
    have hgv : gk < V.heap.size := HS2.out.own.2
    have hne : w2.heap.size ≠ gk := HS2.out.ne HRV.out (by decide)
    clear hVd gV hi q1 q2 c0 c1 c2 cf0 cf1 Hsp HBw
    have h7 : (how : Int) % 7 = 0 ∨ (how : Int) % 7 = 1 ∨ (how : Int) % 7 = 2 ∨ (how : Int) % 7 = 3 ∨ (how : Int) % 7 = 4 ∨ (how : Int) % 7 = 5 ∨ (how : Int) % 7 = 6 := by omega
    rcases h7 with h7 | h7 | h7 | h7 | h7 | h7 | h7
    · obtain ⟨⟨u, y0⟩, y1⟩ := HS2.out.at_ i 0 him (by omega)
      simp only [Nat.add_zero] at y0 y1
      go_upto_region 20 with fail
      have hp := HS2.out.put hS i 0 him (by omega) (.int .i64 n) (fun y => ({ y.1 with op := n }, y.2)) (fun _ => rfl) (fun _ _ h => h)
      simp only [Nat.add_zero] at hp
      have hD := hid (SpD.of hp.1 hS hp.2.2 hne xz (by omega) x0 x1 x2 HBx.out)
      generalize V.setCell ⟨gk, i * 12, none⟩ (.int .i64 n) = W9 at hD ⊢
      clear y0 y1 hp x0 x1 x2 f0 f1
      obtain ⟨vars', dom', a9, n9, cap9, T9, d0, d1, d2, d3, d4, d5⟩ := hD.out
      have D3 := hid d3
      have D5 := hid d5
      clear d3 d5 hD
      go_wp2_with fail
      refine (awake_any W9).mono ?_
      rintro e w7 ⟨rfl, hb7⟩
      have hK7 : Kp W9 w7 := Kp.of hb7
      have e0 := (hK7.2 _ 0 d4).trans d0
      have e1 := (hK7.2 _ 1 d4).trans d1
      have e2 := (hK7.2 _ 2 d4).trans d2
      have e4 := Nat.lt_of_lt_of_le d4 hb7.size
      have ht := hid (told_any vars' dom' a9 n9 cap9 T9 w7 (hK7.ths D3.out))
      have HB7 := hid (D5.out.trans (hb7.mono D5.out.size))
      clear d0 d1 d2 d4 hK7 hb7 D3 D5
      go_wp2_with fail
      refine ht.out.mono ?_
      rintro e w8 ⟨rfl, hb8⟩
      have HB8 := hid (HB7.out.trans (hb8.mono HB7.out.size))
      clear hb8
      go_wp2_with fail
      go_ret
      exact ⟨rfl, HB8.out⟩
    · obtain ⟨⟨u, y0⟩, y1⟩ := HS2.out.at_ i 11 him (by omega)
      go_upto_region 20 with fail
      have hp := HS2.out.put hS i 11 him (by omega) (.int .i64 n) (fun y => (⟨y.1.op, y.1.reg, y.1.v, y.1.a, y.1.b, n⟩, y.2)) (fun _ => rfl) (fun _ _ h => h)
      have hD := hid (SpD.of hp.1 hS hp.2.2 hne xz (by omega) x0 x1 x2 HBx.out)
      generalize V.setCell ⟨gk, i * 12 + 11, none⟩ (.int .i64 n) = W9 at hD ⊢
      clear y0 y1 hp x0 x1 x2 f0 f1
      obtain ⟨vars', dom', a9, n9, cap9, T9, d0, d1, d2, d3, d4, d5⟩ := hD.out
      have D3 := hid d3
      have D5 := hid d5
      clear d3 d5 hD
      go_wp2_with fail
      refine (awake_any W9).mono ?_
      rintro e w7 ⟨rfl, hb7⟩
      have hK7 : Kp W9 w7 := Kp.of hb7
      have e0 := (hK7.2 _ 0 d4).trans d0
      have e1 := (hK7.2 _ 1 d4).trans d1
      have e2 := (hK7.2 _ 2 d4).trans d2
      have e4 := Nat.lt_of_lt_of_le d4 hb7.size
      have ht := hid (told_any vars' dom' a9 n9 cap9 T9 w7 (hK7.ths D3.out))
      have HB7 := hid (D5.out.trans (hb7.mono D5.out.size))
      clear d0 d1 d2 d4 hK7 hb7 D3 D5
      go_wp2_with fail
      refine ht.out.mono ?_
      rintro e w8 ⟨rfl, hb8⟩
      have HB8 := hid (HB7.out.trans (hb8.mono HB7.out.size))
      clear hb8
      go_wp2_with fail
      go_ret
      exact ⟨rfl, HB8.out⟩
    · obtain ⟨⟨u, y0⟩, y1⟩ := HS2.out.at_ i 2 him (by omega)
      go_upto_region 20 with fail
      have hp := HS2.out.put hS i 2 him (by omega) (.int .i64 n) (fun y => ({ y.1 with v := n }, y.2)) (fun _ => rfl) (fun _ _ h => h)
      have hD := hid (SpD.of hp.1 hS hp.2.2 hne xz (by omega) x0 x1 x2 HBx.out)
      generalize V.setCell ⟨gk, i * 12 + 2, none⟩ (.int .i64 n) = W9 at hD ⊢
      clear y0 y1 hp x0 x1 x2 f0 f1
      obtain ⟨vars', dom', a9, n9, cap9, T9, d0, d1, d2, d3, d4, d5⟩ := hD.out
      have D3 := hid d3
      have D5 := hid d5
      clear d3 d5 hD
      go_wp2_with fail
      refine (awake_any W9).mono ?_
      rintro e w7 ⟨rfl, hb7⟩
      have hK7 : Kp W9 w7 := Kp.of hb7
      have e0 := (hK7.2 _ 0 d4).trans d0
      have e1 := (hK7.2 _ 1 d4).trans d1
      have e2 := (hK7.2 _ 2 d4).trans d2
      have e4 := Nat.lt_of_lt_of_le d4 hb7.size
      have ht := hid (told_any vars' dom' a9 n9 cap9 T9 w7 (hK7.ths D3.out))
      have HB7 := hid (D5.out.trans (hb7.mono D5.out.size))
      clear d0 d1 d2 d4 hK7 hb7 D3 D5
      go_wp2_with fail
      refine ht.out.mono ?_
      rintro e w8 ⟨rfl, hb8⟩
      have HB8 := hid (HB7.out.trans (hb8.mono HB7.out.size))
      clear hb8
      go_wp2_with fail
      go_ret
      exact ⟨rfl, HB8.out⟩
    · obtain ⟨⟨u, y0⟩, y1⟩ := HS2.out.at_ i 1 him (by omega)
      go_upto_region 20 with fail
      have hp := HS2.out.put hS i 1 him (by omega) (.int .i64 n) (fun y => ({ y.1 with reg := n }, y.2)) (fun _ => rfl) (fun _ _ h => h)
      have hD := hid (SpD.of hp.1 hS hp.2.2 hne xz (by omega) x0 x1 x2 HBx.out)
      generalize V.setCell ⟨gk, i * 12 + 1, none⟩ (.int .i64 n) = W9 at hD ⊢
      clear y0 y1 hp x0 x1 x2 f0 f1
      obtain ⟨vars', dom', a9, n9, cap9, T9, d0, d1, d2, d3, d4, d5⟩ := hD.out
      have D3 := hid d3
      have D5 := hid d5
      clear d3 d5 hD
      go_wp2_with fail
      refine (awake_any W9).mono ?_
      rintro e w7 ⟨rfl, hb7⟩
      have hK7 : Kp W9 w7 := Kp.of hb7
      have e0 := (hK7.2 _ 0 d4).trans d0
      have e1 := (hK7.2 _ 1 d4).trans d1
      have e2 := (hK7.2 _ 2 d4).trans d2
      have e4 := Nat.lt_of_lt_of_le d4 hb7.size
      have ht := hid (told_any vars' dom' a9 n9 cap9 T9 w7 (hK7.ths D3.out))
      have HB7 := hid (D5.out.trans (hb7.mono D5.out.size))
      clear d0 d1 d2 d4 hK7 hb7 D3 D5
      go_wp2_with fail
      refine ht.out.mono ?_
      rintro e w8 ⟨rfl, hb8⟩
      have HB8 := hid (HB7.out.trans (hb8.mono HB7.out.size))
      clear hb8
      go_wp2_with fail
      go_ret
      exact ⟨rfl, HB8.out⟩
    · obtain ⟨⟨u3, y0⟩, y1⟩ := HS2.out.at_ i 3 him (by omega)
      obtain ⟨⟨u4, y2⟩, y3⟩ := HS2.out.at_ i 4 him (by omega)
      obtain ⟨⟨u5, y4⟩, y5⟩ := HS2.out.at_ i 5 him (by omega)
      obtain ⟨⟨u6, y6⟩, y7⟩ := HS2.out.at_ i 6 him (by omega)
      go_upto_region 20 with fail
      have p1 := HS2.out.put hS i 3 him (by omega) (.int .i64 1) (fun y => ({ y.1 with a := .mk 1 y.1.a.num y.1.a.op y.1.a.kids }, { y.2 with u0 := .int .i64 1 })) (fun _ => rfl) (fun _ _ h => ⟨exIn_k h.1, h.2⟩)
      have p2 := p1.1.put hS i 4 him (by omega) (.int .i64 n) (fun y => ({ y.1 with a := .mk y.1.a.kind n y.1.a.op y.1.a.kids }, { y.2 with u1 := .int .i64 n })) (fun _ => rfl) (fun _ _ h => ⟨exIn_n Hn.out h.1, h.2⟩)
      have p3 := p2.1.put hS i 5 him (by omega) (.int .u8 0) (fun y => ({ y.1 with a := .mk y.1.a.kind y.1.a.num 0 y.1.a.kids }, { y.2 with u2 := .int .u8 0 })) (fun _ => rfl) (fun _ _ h => ⟨exIn_o h.1, h.2⟩)
      have p4 := p3.1.put hS i 6 him (by omega) (.slice none 0 0) (fun y => ({ y.1 with a := .mk y.1.a.kind y.1.a.num y.1.a.op [] }, { y.2 with u3 := .slice none 0 0 })) (fun _ => rfl) (fun _ _ h => ⟨exIn_s h.1, h.2⟩)
      have hD := hid (SpD.of p4.1 hS (gb2 (gb2 (gb2 p1.2.2 p2.2.2) p3.2.2) p4.2.2) hne xz (by omega) x0 x1 x2 HBx.out)
      simp only [Nat.add_assoc, Nat.reduceAdd]
      generalize (((V.setCell ⟨gk, i * 12 + 3, none⟩ (.int .i64 1)).setCell ⟨gk, i * 12 + 4, none⟩ (.int .i64 n)).setCell ⟨gk, i * 12 + 5, none⟩ (.int .u8 0)).setCell ⟨gk, i * 12 + 6, none⟩ (.slice none 0 0) = W9 at hD ⊢
      clear y0 y1 y2 y3 y4 y5 y6 y7 p1 p2 p3 p4 x0 x1 x2 f0 f1
      obtain ⟨vars', dom', a9, n9, cap9, T9, d0, d1, d2, d3, d4, d5⟩ := hD.out
      have D3 := hid d3
      have D5 := hid d5
      clear d3 d5 hD
      go_wp2_with fail
      refine (awake_any W9).mono ?_
      rintro e w7 ⟨rfl, hb7⟩
      have hK7 : Kp W9 w7 := Kp.of hb7
      have e0 := (hK7.2 _ 0 d4).trans d0
      have e1 := (hK7.2 _ 1 d4).trans d1
      have e2 := (hK7.2 _ 2 d4).trans d2
      have e4 := Nat.lt_of_lt_of_le d4 hb7.size
      have ht := hid (told_any vars' dom' a9 n9 cap9 T9 w7 (hK7.ths D3.out))
      have HB7 := hid (D5.out.trans (hb7.mono D5.out.size))
      clear d0 d1 d2 d4 hK7 hb7 D3 D5
      go_wp2_with fail
      refine ht.out.mono ?_
      rintro e w8 ⟨rfl, hb8⟩
      have HB8 := hid (HB7.out.trans (hb8.mono HB7.out.size))
      clear hb8
      go_wp2_with fail
      go_ret
      exact ⟨rfl, HB8.out⟩
    · go_upto_region 20 with fail
      obtain ⟨W9, hW9⟩ : ∃ W9, W9 = V.setCell ⟨w2.heap.size, 1, none⟩ (.int .i64 n) := ⟨_, rfl⟩
      have k0 : W9.cell? ⟨w2.heap.size, 0, none⟩ = some (.int .i64 (vars : Int)) := by subst hW9; go_simp
      have k1 : W9.cell? ⟨w2.heap.size, 1, none⟩ = some (.int .i64 n) := by subst hW9; go_simp
      have k2 : W9.cell? ⟨w2.heap.size, 2, none⟩ = some (.slice (some ⟨g, 0, none⟩) T.length vc) := by subst hW9; go_simp
      have hD := hid (SpD.code HS2.out hS hW9 HRV.out (by omega) (by omega) k0 k1 k2 HBx.out)
      rw [← hW9]
      clear hW9 k0 k1 k2 x0 x1 x2 f0 f1
      obtain ⟨vars', dom', a9, n9, cap9, T9, d0, d1, d2, d3, d4, d5⟩ := hD.out
      have D3 := hid d3
      have D5 := hid d5
      clear d3 d5 hD
      go_wp2_with fail
      refine (awake_any W9).mono ?_
      rintro e w7 ⟨rfl, hb7⟩
      have hK7 : Kp W9 w7 := Kp.of hb7
      have e0 := (hK7.2 _ 0 d4).trans d0
      have e1 := (hK7.2 _ 1 d4).trans d1
      have e2 := (hK7.2 _ 2 d4).trans d2
      have e4 := Nat.lt_of_lt_of_le d4 hb7.size
      have ht := hid (told_any vars' dom' a9 n9 cap9 T9 w7 (hK7.ths D3.out))
      have HB7 := hid (D5.out.trans (hb7.mono D5.out.size))
      clear d0 d1 d2 d4 hK7 hb7 D3 D5
      go_wp2_with fail
      refine ht.out.mono ?_
      rintro e w8 ⟨rfl, hb8⟩
      have HB8 := hid (HB7.out.trans (hb8.mono HB7.out.size))
      clear hb8
      go_wp2_with fail
      go_ret
      exact ⟨rfl, HB8.out⟩
    · go_upto_region 20 with fail
      obtain ⟨W9, hW9⟩ : ∃ W9, W9 = V.setCell ⟨w2.heap.size, 0, none⟩ (.int .i64 n) := ⟨_, rfl⟩
      have k0 : W9.cell? ⟨w2.heap.size, 0, none⟩ = some (.int .i64 n) := by subst hW9; go_simp
      have k1 : W9.cell? ⟨w2.heap.size, 1, none⟩ = some (.int .i64 dom) := by subst hW9; go_simp
      have k2 : W9.cell? ⟨w2.heap.size, 2, none⟩ = some (.slice (some ⟨g, 0, none⟩) T.length vc) := by subst hW9; go_simp
      have hD := hid (SpD.code HS2.out hS hW9 HRV.out (by omega) (by omega) k0 k1 k2 HBx.out)
      rw [← hW9]
      clear hW9 k0 k1 k2 x0 x1 x2 f0 f1
      obtain ⟨vars', dom', a9, n9, cap9, T9, d0, d1, d2, d3, d4, d5⟩ := hD.out
      have D3 := hid d3
      have D5 := hid d5
      clear d3 d5 hD
      go_wp2_with fail
      refine (awake_any W9).mono ?_
      rintro e w7 ⟨rfl, hb7⟩
      have hK7 : Kp W9 w7 := Kp.of hb7
      have e0 := (hK7.2 _ 0 d4).trans d0
      have e1 := (hK7.2 _ 1 d4).trans d1
      have e2 := (hK7.2 _ 2 d4).trans d2
      have e4 := Nat.lt_of_lt_of_le d4 hb7.size
      have ht := hid (told_any vars' dom' a9 n9 cap9 T9 w7 (hK7.ths D3.out))
      have HB7 := hid (D5.out.trans (hb7.mono D5.out.size))
      clear d0 d1 d2 d4 hK7 hb7 D3 D5
      go_wp2_with fail
      refine ht.out.mono ?_
      rintro e w8 ⟨rfl, hb8⟩
      have HB8 := hid (HB7.out.trans (hb8.mono HB7.out.size))
      clear hb8
      go_wp2_with fail
      go_ret
      exact ⟨rfl, HB8.out⟩
end Go.Proofs.YtcgpobeidlimkaaGreatDoor
