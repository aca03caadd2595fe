/- Statements as instructions: the document's word. -/
import Derived.Test.YtekmcoflagajkaaGreatDoorBunS
import Derived.Test.YtekmcoflagajkaaGreatDoorBunM
import Derived.Deep.CutRange
import Derived.Deep.CutBlock
namespace Go.Proofs.YtekmcoflagajkaaGreatDoor
open Go.RowKit

/-- Kept: what lies below n0. -/
theorem StRow.at0 {n0 : Nat} {S : Nat → Prop} {w w' : World} {a : Option Addr} {n cap : Nat} {l : List St} (h : StRow w S a n cap l) (hb : Below n0 w w') (hS : ∀ b, S b → b < n0) : StRow w' S a n cap l :=
  h.keep fun b o hb' => hb.cell (p := ⟨b, o, none⟩) (hS b hb')
theorem StIn.at0 {n0 : Nat} {S : Nat → Prop} {w w' : World} {cs : List Value} {x : St} (h : StIn w S cs x) (hb : Below n0 w w') (hS : ∀ b, S b → b < n0) : StIn w' S cs x :=
  h.keep fun b o hb' => hb.cell (p := ⟨b, o, none⟩) (hS b hb')
theorem ExIn.at0 {n0 : Nat} {S : Nat → Prop} {w w' : World} {cs : List Value} {x : Ex} (h : ExIn w S cs x) (hb : Below n0 w w') (hS : ∀ b, S b → b < n0) : ExIn w' S cs x :=
  h.keep fun b o hb' => hb.cell (p := ⟨b, o, none⟩) (hS b hb')

/-- New instructions. -/
def RPost (S : Nat → Prop) (L : List Ins) (w : World) (e : Ending) (w' : World) : Prop :=
  ∃ a c, e = .returned (.slice a L.length c) ∧ InsO w' w.heap.size S (.slice a L.length c) L ∧ Below w.heap.size w w'
def RBlk (n0 : Nat) (S : Nat → Prop) (n : Nat) : Prop := ∀ (l : List St) (a : Option Addr) (cap at_ : Nat) (w : World), cntL l ≤ n → at_ + 2 * cntL l ≤ 50000 → n0 ≤ w.heap.size → StRow w S a l.length cap l →
  Calls Tryz.prog 32 #[.slice a l.length cap, .int .i64 at_] w (RPost S (cmpL l at_) w)
def RStm (n0 : Nat) (S : Nat → Prop) (n : Nat) : Prop := ∀ (x : St) (cs : List Value) (at_ : Nat) (w : World), cntS x ≤ n → at_ + 2 * cntS x ≤ 50000 → n0 ≤ w.heap.size → StIn w S cs x →
  Calls Tryz.prog 53 #[.agg cs.toArray, .int .i64 at_] w (RPost S (cmpS x at_) w)

theorem exZ_in (w : World) (S : Nat → Prop) : ExIn w S [.int .i64 0, .int .i64 0, .int .u8 0, .slice none 0 0] exZ := ExIn.leaf _ _ 0 0 0 (by decide) (by decide) (by decide)

set_option maxRecDepth 100000 in
set_option maxHeartbeats 8000000 in
theorem rblk_step (n0 : Nat) (S : Nat → Prop) (hS : ∀ b, S b → b < n0) (n : Nat) (hst : RStm n0 S n) : RBlk n0 S n := by
  intro l a cap at_ w hn hlim h0 hin
  have hcap := hin.le
  have hmx := hin.mx
  unfold maxLen at hmx
  have Hin := hid hin
  have hS0 : ∀ b, S b → b < w.heap.size := fun b hb => Nat.lt_of_lt_of_le (hS b hb) h0
  have HS := hid hS0
  have Hst := hid hst
  clear hin hS0 hst
  go_enter Tryz.func32, Tryz.ntmps32
  go_wp2_with fail
  go_loopw [5, 6] (fun v i wr => ∃ (k : Nat) (av : Option Addr) (cv : Nat), k ≤ l.length ∧ i = .int .i64 k ∧ v = .slice av (cmpL (l.take k) at_).length cv ∧ Hid (InsO wr w.heap.size S v (cmpL (l.take k) at_)) ∧ Kp w wr) (fun _ i _ => l.length - (intOf i).toNat)
  case atStart => exact ⟨0, none, 0, Nat.zero_le _, rfl, rfl, InsO.nil_, Kp.refl _⟩
  case round =>
    obtain ⟨k, av, cv, hk, rfl, rfl, hI, hK⟩ := hrel
    by_cases hlt : k < l.length
    · obtain ⟨b, off, u0, u1, u2, u3, v0, v1, v2, v3, ta, ea, tc, ec, rfl, hb, ⟨e0, e1, e2⟩, ⟨e3, e4, e5, e6⟩, ⟨e7, e8, e9, e10⟩, ⟨e11, e12⟩, -, hst⟩ := Hin.out.at_ k hlt
      have hbl := HS.out b hb
      have k0 : (0 : Int) ≤ k := by omega
      have k1 : (k : Int) < l.length := by omega
      have g0 := hK.1.size
      have g3 : b < wr.heap.size := by omega
      have hnext := cmpL_take l at_ k hlt
      have hlen := cmpL_len (l.take k) at_
      have hc1 := cntL_take l k hlt
      have hc2 := cntL_le l k
      have hc3 := cntL_le l (k + 1)
      have hs := cmpS_len l[k] (at_ + (cmpL (l.take k) at_).length)
      have hcall : Hid (∀ W, Kp w W → Calls Tryz.prog 53 #[.agg #[.int .i64 l[k].kind, .int .i64 l[k].reg, .int .i64 l[k].var, u0, u1, u2, u3, v0, v1, v2, v3, .slice ta l[k].t.length tc, .slice ea l[k].e.length ec], .int .i64 ((at_ + (cmpL (l.take k) at_).length : Nat) : Int)] W (RPost S (cmpS l[k] (at_ + (cmpL (l.take k) at_).length)) W)) := fun W hW =>
        Hst.out l[k] _ (at_ + (cmpL (l.take k) at_).length) W (by omega) (by omega) (by have := hW.1.size; omega) (hst.at0 hW.1 HS.out)
      have Hnext := hid hnext
      clear hst hnext
      unfold RPost at hcall
      generalize hL0 : cmpL (l.take k) at_ = L0 at *
      have HL0 := hid hL0
      clear hL0
      generalize hN : cmpS l[k] (at_ + L0.length) = N at *
      generalize l[k].kind = xk at *
      generalize l[k].reg = xr at *
      generalize l[k].var = xv at *
      generalize l[k].t.length = xt at *
      generalize l[k].e.length = xe at *
      clear hN
      have hc : ((at_ + L0.length : Nat) : Int) = (at_ : Int) + L0.length := by omega
      rw [hc] at hcall
      clear hc
      have hb1 : L0.length + N.length ≤ 100000 := by omega
      clear hlen hc1 hc2 hc3 hs
      have HI := hid hI.out
      go_wp2_with (first
        | (go_at_call 53
           with_reducible refine (hcall.out _ hK).mono ?_
           rintro e w1 ⟨a1, c1, rfl, hO1, hB1⟩
           have HO1 := hid hO1
           have HI1 : Hid (InsO w1 w.heap.size S (.slice av L0.length cv) L0) := HI.out.kept (r := none) ⟨hB1.os, hB1.tape, hB1.output, hB1.size, fun k hk _ => hB1.block k hk⟩ (by cases (Value.slice av L0.length cv).ownBlock <;> simp) (fun b hb => ⟨by have := HS.out b hb; omega, by simp⟩)
           have hK1 := hK.next hB1
           clear hO1 hB1)
        | (at_builtin
           (refine list_insO (base := w.heap.size) (S := S) (.tmp 13) (.tmp 22) (.slice av L0.length cv) L0 N ?_ ?_ ?_ ?_ ?_ ?_ ?_ ?_ ?_)
           (focus rfl); (focus rfl); (focus rfl); (focus exact HI1.out); (focus exact HO1.out.src); (focus exact hb1); (focus exact hK1.1.size); (focus exact HS.out)
           intro a2 c2 w2 hO2 hg2 hat2
           have HO2 := hid hO2
           have hK2 : Kp w w2 := Kp.of (hK1.1.grown hg2 hK1.1.size fun k hk => (HI1.out.own k hk).1)
           clear hO2 hg2 hat2)
        | fail)
      go_roundw
      case rel => exact ⟨k + 1, a2, c2, by omega, by simp, by rw [Hnext.out, List.length_append], by show InsO _ _ _ _ _; rw [Hnext.out]; exact HO2.out, hK2⟩
      case measure => simp [intOf]; omega
    · obtain rfl : k = l.length := by omega
      rw [List.take_length] at hI
      have HI := hid hI.out
      clear hI
      rw [List.take_length]
      generalize cmpL l at_ = L at *
      go_wp2_with fail
      go_ret
      exact ⟨av, cv, rfl, HI.out, hK.1⟩

theorem kept_below {w w1 : World} {B : Nat} {S : Nat → Prop} {v : Value} {L : List Ins} (h : InsO w B S v L) (hb : Below w.heap.size w w1) (hS : ∀ b, S b → b < w.heap.size) : InsO w1 B S v L :=
  h.kept (r := none) ⟨hb.os, hb.tape, hb.output, hb.size, fun k hk _ => hb.block k hk⟩ (by cases v.ownBlock <;> simp) fun b hb' => ⟨hS b hb', by simp⟩
theorem kept_alloc {w : World} {B : Nat} {S : Nat → Prop} {v : Value} {L : List Ins} (h : InsO w B S v L) (hS : ∀ b, S b → b < w.heap.size) (o : Obj) : InsO (w.alloc o) B S v L :=
  kept_below h ((Below.refl _ _).alloc (Nat.le_refl _) o) hS

theorem below_own {w w1 w2 : World} {v : Value} {B : Nat} {S : Nat → Prop} {L : List Ins} {w3 : World} (h : Below w.heap.size w w1) (hg : w1.grownBy w2 v.ownBlock) (ho : InsO w3 B S v L) (hB : w.heap.size ≤ B) : Below w.heap.size w w2 :=
  h.grown hg h.size fun k hk => by have := (ho.own k hk).1; omega
theorem below_lit {w w1 w2 : World} {o : Obj} {n m : Nat} (h : Below w.heap.size w w1) (hg : (w1.alloc o).grownBy w2 (Value.slice (some ⟨w1.heap.size, 0, none⟩) n m).ownBlock) : Below w.heap.size w w2 :=
  (h.alloc h.size o).grown hg (by have := h.size; simp; omega) fun k hk => by
    have h1 : w1.heap.size = k := by simpa [Value.ownBlock] using hk
    have := h.size
    omega
theorem kept_lit {w1 w2 : World} {B : Nat} {S : Nat → Prop} {v : Value} {L : List Ins} {o : Obj} {n m : Nat} (h : InsO w1 B S v L) (hS : ∀ b, S b → b < w1.heap.size) (hg : (w1.alloc o).grownBy w2 (Value.slice (some ⟨w1.heap.size, 0, none⟩) n m).ownBlock) : InsO w2 B S v L :=
  (kept_alloc h hS o).kept hg (by
    rcases hv : v.ownBlock with _ | k
    · exact .inl rfl
    · right
      have := (h.own k hv).2
      intro e
      have h1 : k = w1.heap.size := by simpa [Value.ownBlock] using e
      omega) fun b hb => ⟨by have := hS b hb; simp; omega, fun e => by
      have := hS b hb
      have h1 : b = w1.heap.size := by simpa [Value.ownBlock] using e
      omega⟩
theorem kept_own {w1 w2 w3 : World} {B B' : Nat} {S : Nat → Prop} {v u : Value} {L M : List Ins} {o : Obj} (h : InsO w1 B S v L) (hv : ∀ k, v.ownBlock = some k → k < B') (hS : ∀ b, S b → b < B') (hB : B' ≤ w1.heap.size) (hu : InsO w3 B' S u M) (hg : (w1.alloc o).grownBy w2 u.ownBlock) : InsO w2 B S v L := by
  have hS1 : ∀ b, S b → b < w1.heap.size := fun b hb => Nat.lt_of_lt_of_le (hS b hb) hB
  refine (kept_alloc h hS1 o).kept hg ?_ fun b hb => ⟨by have := hS1 b hb; simp; omega, fun e => ?_⟩
  · rcases hk : v.ownBlock with _ | k
    · exact .inl rfl
    · right
      intro e
      have h1 := hv k hk
      have h2 := (hu.own k e.symm).1
      omega
  · have h1 := hS b hb
    have h2 := (hu.own b e.symm).1
    omega

set_option maxRecDepth 100000 in
set_option maxHeartbeats 8000000 in
theorem rstm_step (n0 : Nat) (S : Nat → Prop) (hS : ∀ b, S b → b < n0) (n : Nat) (hbl : ∀ m, m < n → RBlk n0 S m) : RStm n0 S n := by
  intro x cs at_ w hn hlim h0 hin
  have hS0 : ∀ b, S b → b < w.heap.size := fun b hb => Nat.lt_of_lt_of_le (hS b hb) h0
  have HS := hid hS0
  have Hbl := hid hbl
  have hce := cntS_eq x
  have hres := cmpS_eq x at_
  obtain ⟨xk, xr, xv, xa, xb, xt, xe⟩ := x
  obtain ⟨u0, u1, u2, u3, v0, v1, v2, v3, ta, ea, tc, ec, rfl, ha, hb, ht, he⟩ := hin.open_
  simp only [St.t, St.e] at hce
  obtain ⟨o0, o1, o2, o3⟩ := ha.ones
  obtain ⟨o4, o5, o6, o7⟩ := hb.ones
  have htc := ht.le
  have htm := ht.mx
  have hec := he.le
  have hem := he.mx
  unfold maxLen at htm hem
  have hlt1 := cmpL_len xt (at_ + 1)
  have Hce := hid hce
  have Hn := hid hn
  have Hlim := hid hlim
  generalize hW : w.alloc (.cells #[.int .i64 xk, .int .i64 xr, .int .i64 xv, u0, u1, u2, u3, v0, v1, v2, v3, .slice ta xt.length tc, .slice ea xe.length ec] 114) = W0
  have hB0 : Below w.heap.size w W0 := by subst hW; exact (Below.refl _ _).alloc (Nat.le_refl _) _
  have hz0 : w.heap.size < W0.heap.size := by subst hW; simp
  have hzz : Hid (W0.heap.size = w.heap.size + 1) := by subst hW; show _ = _; simp
  have Ha := hid (ha.at0 hB0 HS.out)
  have Hb := hid (hb.at0 hB0 HS.out)
  have Ht := hid (ht.at0 hB0 HS.out)
  have He := hid (he.at0 hB0 HS.out)
  have c0 : W0.cell? ⟨w.heap.size, 0, none⟩ = some (.int .i64 xk) := by subst hW; go_simp
  have c1 : W0.cell? ⟨w.heap.size, 1, none⟩ = some (.int .i64 xr) := by subst hW; go_simp
  have c2 : W0.cell? ⟨w.heap.size, 2, none⟩ = some (.int .i64 xv) := by subst hW; go_simp
  have c3 : W0.cell? ⟨w.heap.size, 3, none⟩ = some u0 := by subst hW; go_simp
  have c4 : W0.cell? ⟨w.heap.size, 4, none⟩ = some u1 := by subst hW; go_simp
  have c5 : W0.cell? ⟨w.heap.size, 5, none⟩ = some u2 := by subst hW; go_simp
  have c6 : W0.cell? ⟨w.heap.size, 6, none⟩ = some u3 := by subst hW; go_simp
  have c7 : W0.cell? ⟨w.heap.size, 7, none⟩ = some v0 := by subst hW; go_simp
  have c8 : W0.cell? ⟨w.heap.size, 8, none⟩ = some v1 := by subst hW; go_simp
  have c9 : W0.cell? ⟨w.heap.size, 9, none⟩ = some v2 := by subst hW; go_simp
  have c10 : W0.cell? ⟨w.heap.size, 10, none⟩ = some v3 := by subst hW; go_simp
  have c11 : W0.cell? ⟨w.heap.size, 11, none⟩ = some (.slice ta xt.length tc) := by subst hW; go_simp
  have c12 : W0.cell? ⟨w.heap.size, 12, none⟩ = some (.slice ea xe.length ec) := by subst hW; go_simp
  have HB := hid hB0
  have HT : Hid (∀ W, Kp W0 W → Calls Tryz.prog 32 #[.slice ta xt.length tc, .int .i64 ((at_ : Int) + 1)] W (RPost S (cmpL xt (at_ + 1)) W)) := fun W hK => by
    have h1 := Hce.out; have h2 := Hn.out; have h3 := Hlim.out
    exact Hbl.out (cntL xt) (by omega) xt ta tc (at_ + 1) W (Nat.le_refl _) (by omega) (by have := HB.out.size; have := hK.1.size; omega) (Ht.out.at0 (hK.1.mono HB.out.size) HS.out)
  have HE : Hid (∀ W, Kp W0 W → Calls Tryz.prog 32 #[.slice ea xe.length ec, .int .i64 ((at_ : Int) + 2 + (cmpL xt (at_ + 1)).length)] W (RPost S (cmpL xe (at_ + 2 + (cmpL xt (at_ + 1)).length)) W)) := fun W hK => by
    have h1 := Hce.out; have h2 := Hn.out; have h3 := Hlim.out
    have h4 := cmpL_len xt (at_ + 1)
    exact Hbl.out (cntL xe) (by omega) xe ea ec (at_ + 2 + (cmpL xt (at_ + 1)).length) W (Nat.le_refl _) (by omega) (by have := HB.out.size; have := hK.1.size; omega) (He.out.at0 (hK.1.mono HB.out.size) HS.out)
  have hlt2 := cmpL_len xe (at_ + 2 + (cmpL xt (at_ + 1)).length)
  have hla : (cmpL xt (at_ + 1)).length ≤ 50000 := by omega
  have hlb : (cmpL xe (at_ + 2 + (cmpL xt (at_ + 1)).length)).length ≤ 50000 := by omega
  have hlc : at_ + 3 + (cmpL xt (at_ + 1)).length + (cmpL xe (at_ + 2 + (cmpL xt (at_ + 1)).length)).length ≤ 50003 := by omega
  clear hlt1 hlt2
  unfold RPost at HT HE
  have hWx := hid hW
  have hfin : Hid (∀ A c W, InsO W w.heap.size S (.slice A (cmpS (.mk xk xr xv xa xb xt xe) at_).length c) (cmpS (.mk xk xr xv xa xb xt xe) at_) → Below w.heap.size w W → RPost S (cmpS (.mk xk xr xv xa xb xt xe) at_) w (.returned (.slice A (cmpS (.mk xk xr xv xa xb xt xe) at_).length c)) W) := fun A c W h1 h2 => ⟨A, c, rfl, h1, h2⟩
  have hA0 : Hid (∀ W, Kp W0 W → InsE W S (⟨12, 0, 0, xa, exZ, 0⟩, ⟨u0, u1, u2, u3, .int .i64 0, .int .i64 0, .int .u8 0, .slice none 0 0⟩)) := fun W hK => ⟨Ha.out.at0 (hK.1.mono HB.out.size) HS.out, exZ_in _ _⟩
  clear hW ha hb ht he hin hS0 hbl hB0 hce hn
  by_cases hk10 : xk = 10
  · by_cases he0 : xe.length = 0
    · have hres2 := hid (hres.trans (cmpF_a at_ (cmpL xt) (cmpL xe) hk10 he0))
      simp only [St.a] at hres2
      subst hk10
      have he0b : (xe.length : Int) = 0 := by omega
      clear hres HE he0
      generalize cmpS (.mk 10 xr xv xa xb xt xe) at_ = R at *
      generalize cmpL xt (at_ + 1) = A at *
      go_enter Tryz.func53, Tryz.ntmps53
      have hR : Hid (R = [⟨12, 0, 0, xa, exZ, (at_ : Int) + 1 + A.length⟩] ++ A) := by show _ = _; rw [hres2.out]; simp [brI]
      clear hres2
      go_wp2_with (first
        | (go_at_call 32
           rw [hWx.out]
           with_reducible refine (HT.out _ (Kp.refl _)).mono ?_
           rintro e w1 ⟨a1, c1', rfl, hO1, hB1⟩
           have HO1 := hid hO1
           have hK1 : Kp W0 w1 := Kp.of hB1
           have hy : Hid (InsE w1 S (⟨12, 0, 0, xa, exZ, (at_ : Int) + 1 + A.length⟩, ⟨u0, u1, u2, u3, .int .i64 0, .int .i64 0, .int .u8 0, .slice none 0 0⟩)) := ⟨(hA0.out w1 hK1).1, exZ_in _ _⟩
           have hz1 : w.heap.size < w1.heap.size := by have := hK1.1.size; omega
           clear hO1 hB1)
        | (at_builtin
           refine list_insO (base := w1.heap.size) (S := S) (.tmp 31) (.tmp 32) (.slice (some ⟨w1.heap.size, 0, none⟩) 1 1) [⟨12, 0, 0, xa, exZ, (at_ : Int) + 1 + A.length⟩] A ?_ ?_ ?_ ?_ ?_ ?_ ?_ ?_ ?_
           (focus rfl); (focus rfl); (focus rfl)
           (focus exact InsO.lit hy.out (Nat.le_refl _) (fun b hb => by have := HS.out b hb; omega))
           (focus exact (kept_alloc HO1.out (fun b hb => by have := HS.out b hb; omega) _).src)
           (focus (simp <;> omega)); (focus (simp <;> omega)); (focus exact (fun b hb => by have := HS.out b hb; omega))
           intro a2 c2 w2 hO2 hg2 hat2
           have HO2 := hid hO2
           have HB2 := hid hg2
           clear hO2 hg2 hat2)
        | fail)
      go_ret
      have hRl : R.length = 1 + A.length := by rw [hR.out, List.length_append]; rfl
      refine ⟨a2, c2, ?_, ?_, below_lit (Kp.fin HB.out hK1) HB2.out⟩
      · rw [hRl]; rfl
      · rw [hRl, hR.out]; exact HO2.out.down (by omega)
    · have hres2 := hid (hres.trans (cmpF_b at_ (cmpL xt) (cmpL xe) hk10 he0))
      simp only [St.a] at hres2
      subst hk10
      have he0b : ¬ (xe.length : Int) = 0 := by omega
      have he1b : (0 : Int) < xe.length := by omega
      clear hres he0
      generalize cmpS (.mk 10 xr xv xa xb xt xe) at_ = R at *
      generalize cmpL xt (at_ + 1) = A at *
      generalize cmpL xe (at_ + 2 + A.length) = B at *
      have hR : Hid (R = [⟨12, 0, 0, xa, exZ, (at_ : Int) + 2 + A.length⟩] ++ A ++ [⟨13, 0, 0, exZ, exZ, (at_ : Int) + 2 + A.length + B.length⟩] ++ B) := by show _ = _; rw [hres2.out]; simp [brI, juI]
      clear hres2
      go_enter Tryz.func53, Tryz.ntmps53
      go_wp2_with (first
        | (go_at_call 32
           rw [hWx.out]
           with_reducible refine (HT.out _ (Kp.refl _)).mono ?_
           rintro e w1 ⟨a1, c1', rfl, hO1, hB1⟩
           have HO1 := hid hO1
           have hK1 : Kp W0 w1 := Kp.of hB1
           have hz1 : w.heap.size < w1.heap.size := by have := hK1.1.size; omega
           clear hO1 hB1)
        | (go_at_call 32
           with_reducible refine (HE.out _ hK1).mono ?_
           rintro e w2 ⟨a2, c2', rfl, hO2, hB2⟩
           have HO2 := hid hO2
           have HO1 := hid (kept_below HO1.out hB2 (fun b hb => by have := HS.out b hb; omega))
           have hK2 : Kp W0 w2 := hK1.next hB2
           have hz2 : w.heap.size < w2.heap.size := by have := hB2.size; omega
           have HV := hid hO2.own
           have hy : Hid (InsE w2 S (⟨12, 0, 0, xa, exZ, (at_ : Int) + 2 + A.length⟩, ⟨u0, u1, u2, u3, .int .i64 0, .int .i64 0, .int .u8 0, .slice none 0 0⟩)) := ⟨(hA0.out w2 hK2).1, exZ_in _ _⟩
           clear hO2 hB2)
        | (at_builtin
           refine list_insO (base := w2.heap.size) (S := S) (.tmp 50) (.tmp 51) (.slice (some ⟨w2.heap.size, 0, none⟩) 1 1) [⟨12, 0, 0, xa, exZ, (at_ : Int) + 2 + A.length⟩] A ?_ ?_ ?_ ?_ ?_ ?_ ?_ ?_ ?_
           (focus rfl); (focus rfl); (focus rfl)
           (focus exact InsO.lit hy.out (Nat.le_refl _) (fun b hb => by have := HS.out b hb; omega))
           (focus exact (kept_alloc HO1.out (fun b hb => by have := HS.out b hb; omega) _).src)
           (focus (simp <;> omega)); (focus (simp <;> omega)); (focus exact (fun b hb => by have := HS.out b hb; omega))
           intro a3 c3' w3 hO3 hg3 hat3
           have HO3 := hid hO3
           have HB3 := hid (below_lit (Kp.fin HB.out hK2) hg3)
           have HO2 := hid (kept_lit HO2.out (fun b hb => by have := HS.out b hb; omega) hg3)
           have hz3 : w2.heap.size ≤ w3.heap.size := by have := hg3.size; simp at this; omega
           have hy2 : Hid (InsE w3 S (⟨13, 0, 0, exZ, exZ, (at_ : Int) + 2 + A.length + B.length⟩, ⟨.int .i64 0, .int .i64 0, .int .u8 0, .slice none 0 0, .int .i64 0, .int .i64 0, .int .u8 0, .slice none 0 0⟩)) := ⟨exZ_in _ _, exZ_in _ _⟩
           clear hO3 hg3 hat3)
        | (at_builtin
           refine list_insO (base := w2.heap.size) (S := S) (.tmp 53) (.tmp 63) (.slice a3 (1 + A.length) c3') ([⟨12, 0, 0, xa, exZ, (at_ : Int) + 2 + A.length⟩] ++ A) [⟨13, 0, 0, exZ, exZ, (at_ : Int) + 2 + A.length + B.length⟩] ?_ ?_ ?_ ?_ ?_ ?_ ?_ ?_ ?_
           (focus rfl); (focus rfl); (focus rfl)
           (focus exact kept_alloc HO3.out (fun b hb => by have := HS.out b hb; omega) _)
           (focus exact InsSrc.lit hy2.out (fun b hb => by have := HS.out b hb; omega))
           (focus (simp <;> omega)); (focus (simp <;> omega)); (focus exact (fun b hb => by have := HS.out b hb; omega))
           intro a4 c4' w4 hO4 hg4 hat4
           have HO4 := hid hO4
           have HB4 := hid (below_own (HB3.out.alloc (by omega) _) hg4 HO3.out (by omega))
           have HO2 := hid (kept_own HO2.out (fun k hk => (HV.out k hk).2) (fun b hb => by have := HS.out b hb; omega) (by omega) HO3.out hg4)
           have hz4 : w2.heap.size ≤ w4.heap.size := by have := hg4.size; simp at this; omega
           clear hO4 hg4 hat4)
        | (at_builtin
           (refine list_insO (base := w2.heap.size) (S := S) (.tmp 65) (.tmp 66) (.slice a4 (A.length + 1 + 1) c4') ([⟨12, 0, 0, xa, exZ, (at_ : Int) + 2 + A.length⟩] ++ A ++ [⟨13, 0, 0, exZ, exZ, (at_ : Int) + 2 + A.length + B.length⟩]) B ?_ ?_ ?_ ?_ ?_ ?_ ?_ ?_ ?_)
           (focus rfl); (focus rfl); (focus rfl)
           (focus exact HO4.out)
           (focus exact HO2.out.src)
           (focus (simp <;> omega)); (focus omega); (focus exact (fun b hb => by have := HS.out b hb; omega))
           intro a5 c5' w5 hO5 hg5 hat5
           have HO5 := hid hO5
           have HB5 := hid (below_own HB4.out hg5 HO4.out (by omega))
           clear hO5 hg5 hat5)
        | fail)
      go_ret
      have hRl : R.length = A.length + 1 + 1 + B.length := by rw [hR.out]; simp; omega
      have hO6 : InsO w5 w2.heap.size S (.slice a5 (A.length + 1 + 1 + B.length) c5') ([⟨12, 0, 0, xa, exZ, (at_ : Int) + 2 + A.length⟩] ++ A ++ [⟨13, 0, 0, exZ, exZ, (at_ : Int) + 2 + A.length + B.length⟩] ++ B) := by
        have h := HO5.out
        rw [show ([(⟨12, 0, 0, xa, exZ, (at_ : Int) + 2 + A.length⟩ : Ins)] ++ A ++ [(⟨13, 0, 0, exZ, exZ, (at_ : Int) + 2 + A.length + B.length⟩ : Ins)]).length = A.length + 1 + 1 by simp] at h
        exact h
      refine ⟨a5, c5', ?_, ?_, HB5.out⟩
      · rw [hRl]; rfl
      · rw [hRl, hR.out]; exact hO6.down (by omega)
  · by_cases hk11 : xk = 11
    · have hres2 := hid (hres.trans (cmpF_w at_ (cmpL xt) (cmpL xe) hk11))
      simp only [St.a] at hres2
      subst hk11
      clear hres HE hk10
      generalize cmpS (.mk 11 xr xv xa xb xt xe) at_ = R at *
      generalize cmpL xt (at_ + 1) = A at *
      have hR : Hid (R = [⟨12, 0, 0, xa, exZ, (at_ : Int) + 2 + A.length⟩] ++ A ++ [⟨13, 0, 0, exZ, exZ, (at_ : Int)⟩]) := by show _ = _; rw [hres2.out]; simp [brI, juI]
      clear hres2
      go_enter Tryz.func53, Tryz.ntmps53
      go_wp2_with (first
        | (go_at_call 32
           rw [hWx.out]
           with_reducible refine (HT.out _ (Kp.refl _)).mono ?_
           rintro e w2 ⟨a1, c1', rfl, hO1, hB1⟩
           have HO1 := hid hO1
           have hK2 : Kp W0 w2 := Kp.of hB1
           have hz2 : w.heap.size < w2.heap.size := by have := hK2.1.size; omega
           have hy : Hid (InsE w2 S (⟨12, 0, 0, xa, exZ, (at_ : Int) + 2 + A.length⟩, ⟨u0, u1, u2, u3, .int .i64 0, .int .i64 0, .int .u8 0, .slice none 0 0⟩)) := ⟨(hA0.out w2 hK2).1, exZ_in _ _⟩
           clear hO1 hB1)
        | (at_builtin
           refine list_insO (base := w2.heap.size) (S := S) (.tmp 83) (.tmp 84) (.slice (some ⟨w2.heap.size, 0, none⟩) 1 1) [⟨12, 0, 0, xa, exZ, (at_ : Int) + 2 + A.length⟩] A ?_ ?_ ?_ ?_ ?_ ?_ ?_ ?_ ?_
           (focus rfl); (focus rfl); (focus rfl)
           (focus exact InsO.lit hy.out (Nat.le_refl _) (fun b hb => by have := HS.out b hb; omega))
           (focus exact (kept_alloc HO1.out (fun b hb => by have := HS.out b hb; omega) _).src)
           (focus (simp <;> omega)); (focus (simp <;> omega)); (focus exact (fun b hb => by have := HS.out b hb; omega))
           intro a3 c3' w3 hO3 hg3 hat3
           have HO3 := hid hO3
           have HB3 := hid (below_lit (Kp.fin HB.out hK2) hg3)
           have hz3 : w2.heap.size ≤ w3.heap.size := by have := hg3.size; simp at this; omega
           have hy2 : Hid (InsE w3 S (⟨13, 0, 0, exZ, exZ, (at_ : Int)⟩, ⟨.int .i64 0, .int .i64 0, .int .u8 0, .slice none 0 0, .int .i64 0, .int .i64 0, .int .u8 0, .slice none 0 0⟩)) := ⟨exZ_in _ _, exZ_in _ _⟩
           clear hO3 hg3 hat3)
        | (at_builtin
           refine list_insO (base := w2.heap.size) (S := S) (.tmp 86) (.tmp 89) (.slice a3 (1 + A.length) c3') ([⟨12, 0, 0, xa, exZ, (at_ : Int) + 2 + A.length⟩] ++ A) [⟨13, 0, 0, exZ, exZ, (at_ : Int)⟩] ?_ ?_ ?_ ?_ ?_ ?_ ?_ ?_ ?_
           (focus rfl); (focus rfl); (focus rfl)
           (focus exact kept_alloc HO3.out (fun b hb => by have := HS.out b hb; omega) _)
           (focus exact InsSrc.lit hy2.out (fun b hb => by have := HS.out b hb; omega))
           (focus (simp <;> omega)); (focus (simp <;> omega)); (focus exact (fun b hb => by have := HS.out b hb; omega))
           intro a4 c4' w4 hO4 hg4 hat4
           have HO4 := hid hO4
           have HB4 := hid (below_own (HB3.out.alloc (by omega) _) hg4 HO3.out (by omega))
           clear hO4 hg4 hat4)
        | fail)
      go_ret
      have hRl : R.length = A.length + 1 + 1 := by rw [hR.out]; simp
      have hO6 : InsO w4 w2.heap.size S (.slice a4 (A.length + 1 + 1) c4') ([⟨12, 0, 0, xa, exZ, (at_ : Int) + 2 + A.length⟩] ++ A ++ [⟨13, 0, 0, exZ, exZ, (at_ : Int)⟩]) := by
        have h := HO4.out
        rw [show ([(⟨12, 0, 0, xa, exZ, (at_ : Int) + 2 + A.length⟩ : Ins)] ++ A).length = A.length + 1 by simp] at h
        exact h
      refine ⟨a4, c4', ?_, ?_, HB4.out⟩
      · rw [hRl]; rfl
      · rw [hRl, hR.out]; exact hO6.down (by omega)
    · have hres2 := hid (hres.trans (cmpF_o at_ (cmpL xt) (cmpL xe) hk10 hk11))
      simp only [St.a, St.b, St.kind, St.reg, St.var] at hres2
      have e10 : (xk == 10) = false := by simpa using hk10
      have e11 : (xk == 11) = false := by simpa using hk11
      clear hres HE HT hk10 hk11
      generalize cmpS (.mk xk xr xv xa xb xt xe) at_ = R at *
      have hy : Hid (InsE W0 S (⟨xk, xr, xv, xa, xb, 0⟩, ⟨u0, u1, u2, u3, v0, v1, v2, v3⟩)) := ⟨Ha.out, Hb.out⟩
      go_enter Tryz.func53, Tryz.ntmps53
      go_wp2_with fail
      rw [hWx.out]
      go_ret
      have hO := InsO.lit hy.out (Nat.le_refl _) (fun b hb => by have := HS.out b hb; omega)
      refine ⟨some ⟨W0.heap.size, 0, none⟩, 1, ?_, ?_, HB.out.alloc (by omega) _⟩
      · rw [hres2.out, hzz.out]; rfl
      · rw [hres2.out]; exact hO.down (by omega)

theorem rboth (n0 : Nat) (S : Nat → Prop) (hS : ∀ b, S b → b < n0) : ∀ n, RStm n0 S n ∧ RBlk n0 S n := by
  intro n
  induction n using Nat.strongRecOn with
  | _ n ih =>
    have h := rstm_step n0 S hS n fun m hm => (ih m hm).2
    exact ⟨h, rblk_step n0 S hS n h⟩
/-- The document's block. -/
theorem rblock_any (n0 : Nat) (S : Nat → Prop) (hS : ∀ b, S b → b < n0) (l : List St) (a : Option Addr) (cap at_ : Nat) (w : World) (hl : at_ + 2 * cntL l ≤ 50000) (h0 : n0 ≤ w.heap.size) (hin : StRow w S a l.length cap l) :
    Calls Tryz.prog 32 #[.slice a l.length cap, .int .i64 at_] w (RPost S (cmpL l at_) w) := (rboth n0 S hS _).2 l a cap at_ w (Nat.le_refl _) hl h0 hin
end Go.Proofs.YtekmcoflagajkaaGreatDoor
namespace Go.Proofs.YtekmcoflagajkaaGreatDoor
open Go.RowKit

theorem thsl_info : ∃ i, Tryz.prog.info? 79 = some i ∧ i.zero = some (.slice none 0 0) ∧ i.size = 1 ∧ i.bytes = 24 := by
  have h : (Tryz.prog.info? 79).map (fun i => (i.zero, i.size, i.bytes)) = some (some (.slice none 0 0), 1, 24) := by kernel_rfl
  cases hi : Tryz.prog.info? 79 with
  | none => rw [hi] at h; cases h
  | some i =>
    rw [hi] at h
    simp only [Option.map_some, Option.some.injEq, Prod.mk.injEq] at h
    exact ⟨i, rfl, h.1, h.2.1, h.2.2⟩

/-- Rows of instructions that have been collected: each in a block of its own. -/
def ThsO (w : World) (B : Nat) (S : Nat → Prop) (v : Value) (T : List (List Ins)) : Prop :=
  ∃ LL : List (List Ins × Value), T = LL.map (·.1) ∧ w.ownsRow B 79 1 v LL.length (LL.map (·.2)) ∧ (∀ y ∈ LL, InsO w B S y.2 y.1) ∧ (∀ y ∈ LL, y.2.ownBlock = none ∨ y.2.ownBlock ≠ v.ownBlock) ∧
    LL.Pairwise fun x y => x.2.ownBlock = none ∨ x.2.ownBlock ≠ y.2.ownBlock
namespace ThsO
variable {w w' : World} {B : Nat} {S : Nat → Prop} {v v' : Value} {T : List (List Ins)}
theorem nil_ : ThsO w B S (.slice none 0 0) [] := ⟨[], rfl, World.ownsRow_nil _ _ _ _, fun _ h => (by simp at h), fun _ h => (by simp at h), .nil⟩
theorem own (h : ThsO w B S v T) : ∀ k, v.ownBlock = some k → B ≤ k ∧ k < w.heap.size := by
  obtain ⟨LL, _, h1, _⟩ := h
  exact h1.lt
theorem sl (h : ThsO w B S v T) : ∃ a c, v = .slice a T.length c := by
  obtain ⟨LL, rfl, h1, _⟩ := h
  obtain ⟨a, c, e⟩ := own_at h1
  exact ⟨a, c, by rw [e, List.length_map]⟩
/-- Kept while blocks are written that lie below B. -/
theorem kept {r : Option Nat} (h : ThsO w B S v T) (hg : w.grownBy w' r) (hr : ∀ k, r = some k → k < B) (hS : ∀ b, S b → b < w.heap.size ∧ some b ≠ r) : ThsO w' B S v T := by
  obtain ⟨LL, h0, h1, h2, h3, h4⟩ := h
  have key : ∀ {u : Value}, (∀ k, u.ownBlock = some k → B ≤ k) → u.ownBlock = none ∨ u.ownBlock ≠ r := fun {u} hu => by
    rcases he : u.ownBlock with _ | k
    · exact .inl rfl
    · right
      intro e
      have := hu k he
      have := hr k e.symm
      omega
  refine ⟨LL, h0, h1.kept hg (key fun k hk => (h1.lt k hk).1), fun y hy => ?_, h3, h4⟩
  exact (h2 y hy).kept hg (key fun k hk => ((h2 y hy).own k hk).1) hS
theorem later {n : Nat} (h : ThsO w B S v T) (hg : Below n w w') (hn : w.heap.size ≤ n) (hS : ∀ b, S b → b < w.heap.size) : ThsO w' B S v T :=
  h.kept (r := none) ⟨hg.os, hg.tape, hg.output, hg.size, fun k hk _ => hg.block k (by omega)⟩ (fun k e => by cases e) fun b hb => ⟨hS b hb, by simp⟩
/-- Behind append of one more, that lies in a block of its own, new. -/
theorem app {w0 : World} {B' : Nat} {u : Value} {y : List Ins} (h0 : ThsO w0 B S v T) (hb : Below w0.heap.size w0 w) (hu : InsO w B' S u y) (hB' : w0.heap.size ≤ B') (hBle : B ≤ w0.heap.size) (hS : ∀ b, S b → b < B)
    (h : ∃ LL : List (List Ins × Value), T = LL.map (·.1) ∧ w'.ownsRow B 79 1 v' (LL.length + 1) (LL.map (·.2) ++ [u]) ∧ (∀ y ∈ LL, InsO w0 B S y.2 y.1) ∧ (∀ y ∈ LL, y.2.ownBlock = none ∨ y.2.ownBlock ≠ v.ownBlock) ∧ LL.Pairwise fun x y => x.2.ownBlock = none ∨ x.2.ownBlock ≠ y.2.ownBlock)
    (hv : ∀ k, v.ownBlock = some k → k < w0.heap.size) (hg : w.grownBy w' v.ownBlock) (hat : v'.ownBlock = v.ownBlock ∨ v'.ownBlock = some w.heap.size) : ThsO w' B S v' (T ++ [y]) := by
  obtain ⟨LL, rfl, h1, h2, h3, h4⟩ := h
  have hSw : ∀ b, S b → b < w.heap.size ∧ some b ≠ v.ownBlock := fun b hb' => ⟨by have := hS b hb'; have := hb.size; omega, fun e => by
    obtain ⟨_, _, hh, _⟩ := h0
    have := (hh.lt b e.symm).1
    have := hS b hb'
    omega⟩
  have hold : ∀ z ∈ LL, InsO w' B S z.2 z.1 := fun z hz => (kept_below (h2 z hz) hb (fun b hb' => by have := hS b hb'; omega)).kept hg (h3 z hz) hSw
  have hne : ∀ {q : Value}, (∀ k, q.ownBlock = some k → k < w.heap.size) → (q.ownBlock = none ∨ q.ownBlock ≠ v.ownBlock) → q.ownBlock = none ∨ q.ownBlock ≠ v'.ownBlock := fun {q} hq hq2 => by
    rcases hat with e | e
    · rw [e]; exact hq2
    · rcases hk : q.ownBlock with _ | k
      · exact .inl rfl
      · right
        rw [e]
        intro e2
        have := hq k hk
        simp at e2; omega
  have huv : u.ownBlock = none ∨ u.ownBlock ≠ v.ownBlock := by
    rcases hk : u.ownBlock with _ | k
    · exact .inl rfl
    · right
      intro e
      have := (hu.own k hk).1
      have := hv k e.symm
      omega
  refine ⟨LL ++ [(y, u)], by simp, by simpa using h1, fun z hz => ?_, fun z hz => ?_, ?_⟩
  · rcases List.mem_append.1 hz with hz | hz
    · exact hold z hz
    · simp at hz; subst hz
      exact (hu.kept hg huv hSw).down (by omega)
  · rcases List.mem_append.1 hz with hz | hz
    · exact hne (fun k hk => by have := ((h2 z hz).own k hk).2; have := hb.size; omega) (h3 z hz)
    · simp at hz; subst hz
      exact hne (fun k hk => (hu.own k hk).2) huv
  · rw [List.pairwise_append]
    refine ⟨h4, List.pairwise_singleton _ _, fun p hp q hq => ?_⟩
    simp at hq; subst hq
    rcases hk : p.2.ownBlock with _ | k
    · exact .inl rfl
    · right
      intro e
      have := ((h2 p hp).own k hk).2
      have := (hu.own k e.symm).1
      omega
/-- As threads. -/
theorem ths (h : ThsO w B S v T) : ∃ a cap, v = .slice a T.length cap ∧ ThsIn w (fun b => S b ∨ (B ≤ b ∧ b < w.heap.size)) a T.length cap T := by
  obtain ⟨LL, rfl, h1, h2, _, _⟩ := h
  have hrow : ∀ y ∈ LL, ∃ a c, y.2 = .slice a y.1.length c ∧ InsRow w (fun b => S b ∨ (B ≤ b ∧ b < w.heap.size)) a y.1.length c y.1 := fun y hy => (h2 y hy).row
  obtain ⟨a, cap, rfl⟩ := own_at h1
  classical
  refine ⟨a, cap, by simp, by simp, fun i => if h : i < LL.length then (hrow LL[i] (List.getElem_mem h)).choose else none, fun i => if h : i < LL.length then (hrow LL[i] (List.getElem_mem h)).choose_spec.choose else 0, ?_, fun i hi => ?_⟩
  · have h' := h1
    obtain ⟨_, h⟩ := h1
    rw [List.length_map]
    rcases h with ⟨e, h0⟩ | ⟨g, cap', cur, e, hb, hg, hle, hcm, hsz, htk⟩
    · have h0' : LL.length = 0 := h0
      simp only [Value.slice.injEq] at e
      obtain ⟨rfl, -, rfl⟩ := e
      exact ⟨by omega, Nat.zero_le _, fun hp => absurd hp (by omega)⟩
    · simp only [Value.slice.injEq, true_and] at e
      obtain ⟨rfl, rfl⟩ := e
      refine ⟨hle, hcm, fun _ => ⟨g, 0, rfl, .inr ⟨hb, (Array.getElem?_eq_some_iff.1 hg).1⟩, fun i hi j hj => ?_⟩⟩
      obtain rfl : j = 0 := by omega
      have hc := h'.cells (g := g) rfl i LL[i].2 (by simp [hi])
      rw [Addr.add_lit] at hc
      have e2 := (hrow LL[i] (List.getElem_mem hi)).choose_spec.choose_spec.1
      simp only [dif_pos hi, List.getElem?_map, List.getElem?_eq_getElem hi, Option.map_some, Option.getD_some]
      rw [Nat.mul_one, Nat.add_zero, hc]
      exact congrArg some e2
  · have hi' : i < LL.length := by simpa using hi
    simp only [dif_pos hi', List.getElem_map]
    exact (hrow LL[i] (List.getElem_mem hi')).choose_spec.choose_spec.2
end ThsO

/-- append of a thread. -/
theorem step_thsO {ops : Array Oper} {o : Oper} {a : Act} {w w0 : World} {B B' : Nat} {S : Nat → Prop} {K : Act → World → Prop} {Q : Exit → Act → World → Prop} {E : Prop} (s x : Operand) (v u : Value) (T : List (List Ins)) (y : List Ins)
    (hgd : o.guard = none) (ho : o.op = .call { callee := .builtin .append, args := #[s, x], argTypes := #[23, 23] })
    (hsv : a.eval s = v) (h0 : ThsO w0 B S v T) (hbl : Below w0.heap.size w0 w) (hu : InsO w B' S u y) (hB' : w0.heap.size ≤ B') (hBle : B ≤ w0.heap.size) (hS : ∀ b, S b → b < B) (hsrc : ∃ A c, a.eval x = .slice A 1 c ∧ SrcAt w 1 A 1 [u]) (hb : T.length ≤ 1000)
    (h : ∀ A c w', ThsO w' B S (.slice A (T.length + 1) c) (T ++ [y]) → w.grownBy w' v.ownBlock → ((Value.slice A (T.length + 1) c).ownBlock = v.ownBlock ∨ (Value.slice A (T.length + 1) c).ownBlock = some w.heap.size) → K (a.put o.dst (.slice A (T.length + 1) c)) w') :
    if Region.wanted o (yielded ops a.tmps) = true then Oper.wp Tryz.prog o a w K Q else E := by
  have h0' := h0
  obtain ⟨LL, rfl, h1, h2, h3, h4⟩ := h0
  obtain ⟨i0, hi, hz0, hz1, hz2⟩ := thsl_info
  rw [List.length_map] at hb h
  obtain ⟨au, cu, rfl⟩ := hu.sl
  have hvlt : ∀ k, v.ownBlock = some k → k < w0.heap.size := fun k hk => (h1.lt k hk).2
  have hown : w.ownsRow B 79 1 v LL.length (LL.map (·.2)) := h1.kept (row := none) ⟨hbl.os, hbl.tape, hbl.output, hbl.size, fun k hk _ => hbl.block k hk⟩ (by cases v.ownBlock <;> simp)
  refine step_app hgd s x ho Tryz.underlying23 hi hz0 hz1 hz2 rfl (by decide) v LL.length (LL.map (·.2)) hsv hown 1 [.slice au y.length cu] hsrc (by intro q hq; simp at hq; subst hq; rfl) (by simp only [maxLen]; omega) (by omega) (by have := hbl.size; omega) fun v' w' g1 g2 g3 => ?_
  obtain ⟨A', c', rfl⟩ := own_at g1
  exact h A' c' w' (ThsO.app h0' hbl hu hB' hBle hS ⟨LL, rfl, g1, h2, h3, h4⟩ hvlt g2 g3) g2 g3
end Go.Proofs.YtekmcoflagajkaaGreatDoor
