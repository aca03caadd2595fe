/- A state in memory of its own: the document's own. -/
import Derived.Test.YtekmcoflagajkaaGreatDoorBunV
import Derived.Test.YtekmcoflagajkaaGreatDoorUnpR
import Derived.Test.YtekmcoflagajkaaGreatDoorBunU
import Derived.Test.YtekmcoflagajkaaGreatDoorBunE
import Derived.Deep.RegionLaw
import Derived.Deep.CutRange
import Derived.BigRegion
namespace Go.Proofs.YtekmcoflagajkaaGreatDoor
open Go.RowKit

def OwnPost (w : World) (th : List Thr) (mem : List Int) (bad : Bool) (e : Ending) (w' : World) : Prop :=
  ∃ va vm B, e = .returned (.agg #[va, vm, .bool bad]) ∧ StW w' w.heap.size B va vm th mem ∧ Below w.heap.size w w'
theorem StW.grown {w w' : World} {n0 B b : Nat} {va vm : Value} {th : List Thr} {mem : List Int} (h : StW w n0 B va vm th mem) (hg : w.grownBy w' (some b)) (hb : b < n0) : StW w' n0 B va vm th mem := by
  have hle := h.le
  have hlt := fun k (hk : vm.ownBlock = some k) => (h.hm.2.lt k hk).1
  refine ⟨h.le, Nat.le_trans h.lt hg.size, h.hm.grown hg ?_, h.ml, h.ht.grown hg fun k hk => by simp at hk; omega⟩
  rcases hv : vm.ownBlock with _ | k
  · exact .inl rfl
  · exact .inr fun e => by have := hlt k hv; simp at e; omega
theorem StW.down {w : World} {n0 n1 B : Nat} {va vm : Value} {th : List Thr} {mem : List Int} (h : StW w n0 B va vm th mem) (hn : n1 ≤ n0) : StW w n1 B va vm th mem :=
  ⟨Nat.le_trans hn h.le, h.lt, ⟨h.hm.1, own_down3 h.hm.2 hn⟩, h.ml, h.ht⟩
/-- What own has so far. -/
structure OwS (W0 wr : World) (OB B : Nat) (va vm : Value) (bad : Bool) (th : List Thr) (mem : List Int) : Prop where
  bl : Below W0.heap.size W0 wr
  ob : W0.heap.size ≤ OB ∧ OB < B
  box : SBox wr OB va vm bad
  st : StW wr W0.heap.size B va vm th mem
  ne : vm.ownBlock ≠ some OB
theorem OwS.new {W0 w8 : World} {vm : Value} {bad : Bool} {mem : List Int} (hb : Below W0.heap.size W0 w8) (hN : NumIs w8 W0.heap.size vm mem) : OwS W0 (w8.alloc (.cells #[.slice none 0 0, vm, .bool bad] 34)) w8.heap.size (w8.heap.size + 1) (.slice none 0 0) vm bad [] mem := by
  have hz := hb.size
  have hc := heap_alloc_new w8 (.cells #[.slice none 0 0, vm, .bool bad] 34)
  have hlt := fun k (hk : vm.ownBlock = some k) => (hN.2.lt k hk).2
  exact ⟨hb.alloc hz _, ⟨hz, by omega⟩, ⟨by simp, cell_of_heap hc, cell_of_heap hc, cell_of_heap hc, fun o => unfrozen hc⟩,
    ⟨by omega, by simp, hN.grown (World.grownBy_alloc w8 _ none) (by cases vm.ownBlock <;> simp), fun k hk => by have := hlt k hk; omega, ThO.nil⟩, fun e => by have := hlt _ e; omega⟩
theorem OwS.old {W0 w8 : World} {vm : Value} {bad : Bool} {mem : List Int} (hb : Below W0.heap.size W0 w8) (hN : NumIs w8 W0.heap.size vm mem) (hO : w8.heap[W0.heap.size]? = some (.cells #[.slice none 0 0, .slice none 0 0, .bool false] 34 (0, 0))) (hne : vm.ownBlock ≠ some W0.heap.size) :
    OwS W0 (((w8.setCell ⟨W0.heap.size, 0, none⟩ (.slice none 0 0)).setCell ⟨W0.heap.size, 1, none⟩ vm).setCell ⟨W0.heap.size, 2, none⟩ (.bool bad)) W0.heap.size w8.heap.size (.slice none 0 0) vm bad [] mem := by
  have hlt := fun k (hk : vm.ownBlock = some k) => (hN.2.lt k hk).2
  have hl := (Array.getElem?_eq_some_iff.1 hO).1
  have hc : (((w8.setCell ⟨W0.heap.size, 0, none⟩ (.slice none 0 0)).setCell ⟨W0.heap.size, 1, none⟩ vm).setCell ⟨W0.heap.size, 2, none⟩ (.bool bad)).heap[W0.heap.size]? = some (.cells #[.slice none 0 0, vm, .bool bad] 34 (0, 0)) := by
    simp [World.setCell, Array.getElem?_modify, hO]
  have hg := grown_trans (grown_trans (grown_set w8 W0.heap.size 0 (.slice none 0 0)) (grown_set _ W0.heap.size 1 vm)) (grown_set _ W0.heap.size 2 (.bool bad))
  exact ⟨((hb.setCell (Nat.le_refl _) _).setCell (Nat.le_refl _) _).setCell (Nat.le_refl _) _, ⟨Nat.le_refl _, hl⟩, ⟨by simpa using hl, cell_of_heap hc, cell_of_heap hc, cell_of_heap hc, fun o => unfrozen hc⟩,
    ⟨by omega, by simp, hN.grown hg (.inr hne), hlt, ThO.nil⟩, hne⟩
/-- One thread more. -/
theorem OwS.app {W0 wr w6 w8 : World} {OB B : Nat} {va v8 vm : Value} {bad : Bool} {LL : List (Thr × Option Addr × Nat)} {mem : List Int} {x : Thr} {ar : Option Addr} {kr : Nat} {o : Obj}
    (h : OwS W0 wr OB B va vm bad (LL.map (·.1)) mem) (hown : wr.ownsRow B 64 6 va LL.length (LL.flatMap thC)) (hen : ∀ y ∈ LL, EnIn wr (Sx wr B va) y.2.1 y.1.buf.length y.2.2 y.1.buf)
    (h6 : Below wr.heap.size wr w6) (hx : EnIn w6 (fun b => wr.heap.size ≤ b ∧ b < w6.heap.size) ar x.buf.length kr x.buf)
    (hown8 : w8.ownsRow B 64 6 v8 (LL.length + 1) (LL.flatMap thC ++ thC (x, ar, kr))) (hg8 : (w6.alloc o).grownBy w8 va.ownBlock) (hat8 : v8.ownBlock = va.ownBlock ∨ v8.ownBlock = some (w6.alloc o).heap.size) :
    OwS W0 (w8.setCell ⟨OB, 0, none⟩ v8) OB B v8 vm bad (LL.map (·.1) ++ [x]) mem := by
  have hg := grown_pre' hg8
  have hlt := hown.lt
  have hBle := h.st.lt
  have hob := h.ob
  have hg6 := below_grown h6 none
  have h2 : ∀ y ∈ LL, EnIn w6 (Sx w6 B va) y.2.1 y.1.buf.length y.2.2 y.1.buf := fun y hy =>
    ((hen y hy).keep fun b o hb => h6.cell (p := ⟨b, o, none⟩) hb.2.1).widen fun b hb => ⟨hb.1, Nat.lt_of_lt_of_le hb.2.1 h6.size, hb.2.2⟩
  have hx2 : EnIn w6 (Sx w6 B va) ar x.buf.length kr x.buf := hx.widen fun b hb => ⟨Nat.le_trans hBle hb.1, hb.2, fun e => by have := (hlt b e).2; have := hb.1; omega⟩
  have hT : ThO w8 B v8 (LL.map (·.1) ++ [x]) := ThO.app hown8 hg (at_pre hat8) h2 hx2
  have hvne : ∀ k, va.ownBlock = some k → B ≤ k := fun k hk => (hlt k hk).1
  have hN8 : NumIs w8 W0.heap.size vm mem := (h.st.hm.grown hg6 (by cases vm.ownBlock <;> simp)).grown hg (by
    rcases hv : vm.ownBlock with _ | k
    · exact .inl rfl
    · right
      intro e
      have h1 := h.st.ml k hv
      have h2 := hvne k e.symm
      omega)
  have hOBb : w8.heap[OB]? = wr.heap[OB]? := (hg.block OB (Nat.lt_of_lt_of_le (by omega) h6.size) (fun e => by have := hvne OB e.symm; omega)).trans (h6.block OB (by omega))
  have hX := SBox.block h.box (Nat.le_trans h6.size hg.size) hOBb
  refine ⟨?_, hob, ⟨by simpa [World.setCell] using hX.lt, ?_, ?_, ?_, fun o => frozen_set (hX.f0 o)⟩, ⟨h.st.le, by simpa using Nat.le_trans hBle (Nat.le_trans h6.size hg.size), hN8.grown (grown_set w8 OB 0 v8) (.inr h.ne), h.st.ml, hT.grown (grown_set w8 OB 0 v8) fun n hn => by simp at hn; omega⟩, h.ne⟩
  · exact ((h.bl.trans (h6.mono h.bl.size)).grown hg (Nat.le_trans h.bl.size h6.size) fun k hk => by have := hvne k hk; omega).setCell hob.1 _
  · obtain ⟨x9, x0, x1, x2, xf⟩ := hX
    go_simp
  · rw [World.cell?_setCell_other _ _ _ _ (by intro e; injection e; omega)]; exact hX.c1
  · rw [World.cell?_setCell_other _ _ _ _ (by intro e; injection e; omega)]; exact hX.c2
theorem IntIn.src_ {w : World} {S : Nat → Prop} {a : Option Addr} {n cap : Nat} {l : List Int} (h : IntIn w S a n cap l) : SrcAt w 1 a l.length (l.map (Value.int .i64)) := by
  refine ⟨by simp, fun ha => ?_, fun ad ha j u hj => ?_⟩
  · rcases Nat.eq_zero_or_pos l.length with h0 | h0
    · exact h0
    · obtain ⟨b, off, hb, _⟩ := h.2.at_ h0
      rw [ha] at hb
      cases hb
  · have hjl : j < l.length := by
      rcases Nat.lt_or_ge j l.length with h | h
      · exact h
      · rw [List.getElem?_eq_none (by simpa using h)] at hj; cases hj
    obtain ⟨b, off, hb, -, hc⟩ := h.at_ j hjl
    rw [ha] at hb
    injection hb with hb
    subst hb
    rw [Addr.add_lit, hc]
    rw [List.getElem?_map, List.getElem?_eq_getElem hjl] at hj
    exact hj

set_option maxRecDepth 100000 in
set_option maxHeartbeats 8000000 in
theorem own_any (ah : Option Addr) (nh caph : Nat) (th : List Thr) (am : Option Addr) (nm capm : Nat) (mem : List Int) (bad : Bool) (w : World)
    (hh : ThrIn w (In_ w) ah nh caph th) (hm : IntIn w (In_ w) am nm capm mem) (hbuf : ∀ x ∈ th, x.buf.length ≤ 1000) (hth : th.length ≤ 100) (hml : mem.length ≤ 100) :
    Calls Tryz.prog 38 #[.agg #[.slice ah nh caph, .slice am nm capm, .bool bad]] w (OwnPost w th mem bad) := by
  have hn2 := hh.1
  have hn3 := hm.1
  subst hn2 hn3
  have hcap2 := hh.le
  have hmx2 := hh.mx
  have hcap3 := hm.2.le
  have hmx3 := hm.2.mx
  unfold maxLen at hmx2 hmx3
  obtain ⟨W0, hW⟩ : ∃ W0, W0 = (w.alloc (.cells #[.slice ah th.length caph, .slice am mem.length capm, .bool bad] 34)).alloc (.cells #[.slice none 0 0, .slice none 0 0, .bool false] 34) := ⟨_, rfl⟩
  have hB : Below w.heap.size w W0 := by subst hW; exact ((Below.refl _ _).alloc (Nat.le_refl _) _).alloc (by simp) _
  have zS : W0.heap.size = w.heap.size + 2 := by subst hW; simp
  have s0 : W0.cell? ⟨w.heap.size, 0, none⟩ = some (.slice ah th.length caph) := by subst hW; go_simp
  have s1 : W0.cell? ⟨w.heap.size, 1, none⟩ = some (.slice am mem.length capm) := by subst hW; go_simp
  have s2 : W0.cell? ⟨w.heap.size, 2, none⟩ = some (.bool bad) := by subst hW; go_simp
  have r0 : W0.cell? ⟨w.heap.size + 1, 0, none⟩ = some (.slice none 0 0) := by subst hW; go_simp
  have r1 : W0.cell? ⟨w.heap.size + 1, 1, none⟩ = some (.slice none 0 0) := by subst hW; go_simp
  have r2 : W0.cell? ⟨w.heap.size + 1, 2, none⟩ = some (.bool false) := by subst hW; go_simp
  have rf : ∀ o, W0.frozen? ⟨w.heap.size + 1, o, none⟩ = false := by subst hW; intro o; go_simp
  have Hh := hid ((Kp.of hB).thr hh)
  have Hm := hid ((Kp.of hB).ints hm)
  have HB := hid hB
  have hWx := hid hW
  clear hW hB hh hm
  go_enter Tryz.func38, Tryz.ntmps38
  go_wp2_with fail
  rw [← hWx.out]
  have z0 : w.heap.size < W0.heap.size := by omega
  have ZS := hid zS
  clear zS
  have hsrc := hid Hm.out.src_
  have hone : ∀ u ∈ mem.map (Value.int .i64), u.oneCell' = true := fun u hu => by
    obtain ⟨x, -, rfl⟩ := List.mem_map.1 hu
    rfl
  have hsrcB : Hid (SrcAt ((W0.alloc (.cells #[.slice none 0 0, .slice none 0 0, .bool false] 34)).drew) 1 am mem.length (mem.map (Value.int .i64))) := hid (((Kp.refl W0).alloc (.cells #[.slice none 0 0, .slice none 0 0, .bool false] 34)).ints Hm.out).src_
  have hszB : Hid (W0.heap.size ≤ ((W0.alloc (.cells #[.slice none 0 0, .slice none 0 0, .bool false] 34)).drew).heap.size) := hid (by show W0.heap.size ≤ (W0.alloc _).heap.size; simp)
  have hbA : Hid (Below W0.heap.size W0 ((W0.alloc (.cells #[.slice none 0 0, .slice none 0 0, .bool false] 34)).drew)) := hid ((Below.refl _ _).alloc (Nat.le_refl _) _).drew
  go_cut [3] from 6 to 11 (fun v wx => ∃ OB B vm, v = .pointer (some ⟨OB, 0, none⟩) ∧ OwS W0 wx OB B (.slice none 0 0) vm bad [] mem)
  case first =>
    go_region_law (first
      | ((refine step_i6 (base := W0.heap.size) (.const (.slice none 0 0)) (.tmp 7) (.slice none 0 0) 0 [] mem.length (mem.map (Value.int .i64)) ?_ ?_ ?_ ?_ ?_ ?_ ?_ ?_ ?_);
         (focus rfl); (focus rfl); (focus rfl); (focus exact World.ownsRow_nil _ _ _ _);
         (focus exact ⟨_, _, rfl, hsrc.out⟩);
         (focus exact hone); (focus omega); (focus exact Nat.le_refl _);
         intro v8 w8 hown8 hg8 hat8;
         have hb8 : Hid (Below W0.heap.size W0 w8) := hid ((Below.refl _ W0).drew.trans (grown_below (n := W0.heap.size) hg8 (Nat.le_refl _) (fun k hk => by cases hk)));
         have HN8 : Hid (NumIs w8 W0.heap.size v8 mem) := hid (NumIs.app (L := []) (news := mem) hown8);
         have Hat8 := hid hat8;
         have y2 : w8.cell? ⟨w.heap.size, 2, none⟩ = some (.bool bad) := (hb8.out.cell (p := ⟨w.heap.size, 2, none⟩) z0).trans s2;
         have hz8 : w.heap.size < w8.heap.size := Nat.lt_of_lt_of_le z0 hb8.out.size;
         clear hown8 hg8 hat8;
         obtain ⟨⟨a8, n8, c8, rfl⟩, _⟩ := HN8.out)
      | ((refine step_i6 (base := W0.heap.size) (.const (.slice none 0 0)) (.tmp 7) (.slice none 0 0) 0 [] mem.length (mem.map (Value.int .i64)) ?_ ?_ ?_ ?_ ?_ ?_ ?_ ?_ ?_);
         (focus rfl); (focus rfl); (focus rfl); (focus exact World.ownsRow_nil _ _ _ _);
         (focus exact ⟨_, _, rfl, hsrcB.out⟩);
         (focus exact hone); (focus omega); (focus exact hszB.out);
         intro v8 w8 hown8 hg8 hat8;
         have hb8 : Hid (Below W0.heap.size W0 w8) := hid (hbA.out.trans (grown_below (n := W0.heap.size) hg8 hszB.out (fun k hk => by cases hk)));
         have HN8 : Hid (NumIs w8 W0.heap.size v8 mem) := hid (NumIs.app (L := []) (news := mem) hown8);
         have Hat8 := hid hat8;
         have y2 : w8.cell? ⟨w.heap.size, 2, none⟩ = some (.bool bad) := (hb8.out.cell (p := ⟨w.heap.size, 2, none⟩) z0).trans s2;
         have hz8 : w.heap.size < w8.heap.size := Nat.lt_of_lt_of_le z0 hb8.out.size;
         have hOB : w8.heap[W0.heap.size]? = some (.cells #[.slice none 0 0, .slice none 0 0, .bool false] 34 (0, 0)) := (hg8.block W0.heap.size (by simp) (fun e => by cases e)).trans (heap_alloc_new W0 _);
         have x0 : w8.cell? ⟨W0.heap.size, 0, none⟩ = some (.slice none 0 0) := cell_of_heap hOB;
         have x1 : w8.cell? ⟨W0.heap.size, 1, none⟩ = some (.slice none 0 0) := cell_of_heap hOB;
         have x2 : w8.cell? ⟨W0.heap.size, 2, none⟩ = some (.bool false) := cell_of_heap hOB;
         have xf : ∀ o, w8.frozen? ⟨W0.heap.size, o, none⟩ = false := fun o => unfrozen hOB;
         have lx : W0.heap.size < w8.heap.size := (Array.getElem?_eq_some_iff.1 hOB).1;
         have HOB := hid hOB;
         clear hown8 hg8 hat8 hOB;
         obtain ⟨⟨a8, n8, c8, rfl⟩, _⟩ := HN8.out)
      | fail)
    all_goals
      go_wp2_with fail
      go_meet
      case rel =>
        first
          | exact ⟨_, _, _, rfl, OwS.new hb8.out HN8.out⟩
          | exact ⟨_, _, _, rfl, OwS.old hb8.out HN8.out HOB.out (fun e => by rcases Hat8.out with h | h; (rw [h] at e; cases e); (rw [h] at e; simp at e))⟩
  case rest =>
    obtain ⟨OB, B, vm, rfl, hO⟩ := hcut
    have HO0 := hid hO
    clear hO hsrc hsrcB hszB hbA hone
    go_wp2_with fail
    go_loopw [4] (fun i wr => ∃ (k : Nat) (va : Value), k ≤ th.length ∧ i = .int .i64 k ∧ Hid (OwS W0 wr OB B va vm bad (th.take k) mem)) (fun i _ => th.length - (intOf i).toNat)
    case atStart => exact ⟨0, _, Nat.zero_le _, rfl, HO0.out⟩
    case round =>
      obtain ⟨k, va, hk, rfl, hO⟩ := hrel
      have hbl := hO.out.bl
      have hKr : Kp W0 wr := Kp.of hbl
      have gs := hbl.size
      have e0 : wr.cell? ⟨w.heap.size, 0, none⟩ = some (.slice ah th.length caph) := (hKr.2 _ _ z0).trans s0
      have lS : w.heap.size < wr.heap.size := by omega
      by_cases hlt : k < th.length
      · obtain ⟨b, off, ar, kr, rfl, hb, ⟨c0, c1, c2⟩, ⟨c3, c4, c5⟩, hen⟩ := (hKr.thr Hh.out).at_ k hlt
        have hbl2 : b < wr.heap.size := hb
        have hbk := hbuf _ (List.getElem_mem hlt)
        have k0 : (0 : Int) ≤ k := by omega
        have k1 : (k : Int) < th.length := by omega
        have hts : Hid (th.take (k + 1) = th.take k ++ [th[k]]) := List.take_succ_eq_append_getElem hlt
        obtain ⟨LL, hLL, hown, henL⟩ := hO.out.st.ht
        have hLn : LL.length ≤ 100 := by have h := congrArg List.length hLL; rw [List.length_map, List.length_take] at h; omega
        obtain ⟨av, cv, rfl⟩ := own_at3 hown
        have HLL := hid hLL
        have Hown := hid hown
        have HenL := hid henL
        have Hen := hid hen
        have Hbk := hid hbk
        have hOx := hO.out.box
        have o0 := hOx.c0
        have oB : OB < wr.heap.size := hOx.lt
        clear hLL hown henL hen hbk hOx hbl
        generalize hxk : th[k] = xk at *
        obtain ⟨pc, r0', r1', r2', r3', buf⟩ := xk
        simp only at c0 c1 c2 c3 c4 c5
        have Hen : Hid (EnIn wr (In_ wr) ar buf.length kr buf) := Hen
        have Hbk : Hid (buf.length ≤ 1000) := Hbk
        have hsrcE : Hid (SrcAt (wr.alloc (.cells #[.int .i64 pc, .int .i64 r0', .int .i64 r1', .int .i64 r2', .int .i64 r3', .slice ar buf.length kr] 64)) 2 ar buf.length (buf.flatMap enC)) :=
          EnIn.src (Hen.out.keep fun b o hb => ((Below.refl _ wr).alloc (Nat.le_refl _) _).cell (p := ⟨b, o, none⟩) hb)
        have heC := hid (enC_one buf)
        have hOB := hid hO.out.ob
        go_wp2_with (first
          | (at_builtin
             refine list_en (base := wr.heap.size + 1) (.const (.slice none 0 0)) (.tmp 25) (.slice none 0 0) 0 [] buf.length (buf.flatMap enC) ?_ ?_ ?_ ?_ ?_ ?_ ?_ ?_ ?_
             (focus rfl); (focus rfl); (focus rfl); (focus exact World.ownsRow_nil _ _ _ _); (focus exact ⟨_, _, rfl, hsrcE.out⟩); (focus exact heC.out); (focus (have := Hbk.out; omega)); (focus simp)
             intro v6 w6 hown6 hg6 hat6
             have hb6 : Hid (Below wr.heap.size wr w6) := hid (((Below.refl _ wr).alloc (Nat.le_refl _) _).trans (grown_below (n := wr.heap.size) hg6 (by simp) (fun k hk => by cases hk)))
             have hTB : w6.heap[wr.heap.size]? = some (.cells #[.int .i64 pc, .int .i64 r0', .int .i64 r1', .int .i64 r2', .int .i64 r3', .slice ar buf.length kr] 64 (0, 0)) := (hg6.block wr.heap.size (by simp) (fun e => by cases e)).trans (heap_alloc_new wr _)
             have t0 : w6.cell? ⟨wr.heap.size, 0, none⟩ = some (.int .i64 pc) := cell_of_heap hTB
             have t1 : w6.cell? ⟨wr.heap.size, 1, none⟩ = some (.int .i64 r0') := cell_of_heap hTB
             have t2 : w6.cell? ⟨wr.heap.size, 2, none⟩ = some (.int .i64 r1') := cell_of_heap hTB
             have t3 : w6.cell? ⟨wr.heap.size, 3, none⟩ = some (.int .i64 r2') := cell_of_heap hTB
             have t4 : w6.cell? ⟨wr.heap.size, 4, none⟩ = some (.int .i64 r3') := cell_of_heap hTB
             have t5 : w6.cell? ⟨wr.heap.size, 5, none⟩ = some (.slice ar buf.length kr) := cell_of_heap hTB
             have tf : w6.frozen? ⟨wr.heap.size, 5, none⟩ = false := unfrozen hTB
             have l6 : wr.heap.size < w6.heap.size := (Array.getElem?_eq_some_iff.1 hTB).1
             have HX6 := hid (SBox.block hO.out.box hb6.out.size (hb6.out.block OB oB))
             obtain ⟨p9, p0, p1, p2, pf⟩ := HX6.out
             have pf0 := pf 0
             have hown6' : w6.ownsRow (wr.heap.size + 1) 66 2 v6 buf.length (buf.flatMap enC) := by simpa using hown6
             obtain ⟨a6, c6, rfl, hen6⟩ := EnIn.of_own hown6'
             have Hen6 := hid hen6
             have HB7 : Hid (Below wr.heap.size wr (w6.setCell ⟨wr.heap.size, 5, none⟩ (.slice a6 buf.length c6))) := hid (hb6.out.setCell (Nat.le_refl _) _)
             have Hown7 : Hid ((w6.setCell ⟨wr.heap.size, 5, none⟩ (.slice a6 buf.length c6)).ownsRow B 64 6 (.slice av LL.length cv) LL.length (LL.flatMap thC)) := hid (Hown.out.kept (below_grown HB7.out none) (by cases (Value.slice av LL.length cv).ownBlock <;> simp))
             have lB7 : B ≤ w6.heap.size := Nat.le_trans hO.out.st.lt hb6.out.size
             clear hown6 hg6 hat6 hTB pf hen6 hown6')
          | (at_builtin
             refine list_th (base := B) (.tmp 29) (.tmp 31) (.slice av LL.length cv) LL.length (LL.flatMap thC) 1 (thC (⟨pc, r0', r1', r2', r3', buf⟩, a6, c6)) ?_ ?_ ?_ ?_ ?_ ?_ ?_ ?_ ?_
             (focus rfl); (focus rfl); (focus rfl); (focus exact Hown7.out.alloc _); (focus exact ⟨_, _, rfl, src_at (by simp [World.setCell]) rfl⟩); (focus exact thC_one [(⟨pc, r0', r1', r2', r3', buf⟩, a6, c6)]); (focus omega); (focus (simp; omega))
             intro v8 w8 hown8 hg8 hat8
             have hx7 : EnIn (w6.setCell ⟨wr.heap.size, 5, none⟩ (.slice a6 buf.length c6)) (fun b => wr.heap.size ≤ b ∧ b < (w6.setCell ⟨wr.heap.size, 5, none⟩ (.slice a6 buf.length c6)).heap.size) a6 buf.length c6 buf :=
               (Hen6.out.keep fun b o hb => World.cell?_setCell_other _ _ _ _ (by intro e; injection e with e1; have := hb.1; omega)).widen fun b hb => ⟨by have := hb.1; omega, by simpa [World.setCell] using hb.2⟩
             have hO' : OwS W0 wr OB B (.slice av LL.length cv) vm bad (LL.map (·.1)) mem := by rw [← HLL.out]; exact hO.out
             have hn : Hid (OwS W0 (w8.setCell ⟨OB, 0, none⟩ v8) OB B v8 vm bad (LL.map (·.1) ++ [⟨pc, r0', r1', r2', r3', buf⟩]) mem) := hid (OwS.app hO' Hown.out HenL.out HB7.out hx7 hown8 hg8 hat8)
             have hgp := grown_pre' hg8
             have hr8 : (Value.slice av LL.length cv).ownBlock ≠ some OB := fun e => by have := (Hown.out.lt _ e).1; have := hOB.out; omega
             have HX7 : SBox (w6.setCell ⟨wr.heap.size, 5, none⟩ (.slice a6 buf.length c6)) OB (.slice av LL.length cv) vm bad := SBox.block HX6.out (by simp [World.setCell]) (Below.heap_setCell _ _ _ _ (by show OB ≠ wr.heap.size; omega))
             obtain ⟨y9, y0, y1, y2, yf⟩ := HX7.grown hgp hr8
             have yf0 := yf 0
             obtain ⟨a8, c8, rfl⟩ := own_at3 hown8
             clear hown8 hg8 hat8 hgp hr8 HX7 yf hx7 hO')
          | fail)
        have hn9 : Hid (OwS W0 (w8.setCell ⟨OB, 0, none⟩ (.slice a8 (LL.length + 1) c8)) OB B (.slice a8 (LL.length + 1) c8) vm bad (th.take (k + 1)) mem) := by
          show OwS _ _ _ _ _ _ _ _ _
          rw [hts.out, HLL.out]
          exact hn.out
        clear hn
        go_roundw
        case rel => exact ⟨k + 1, _, by omega, by simp, hn9⟩
        case measure => simp [intOf]; omega
      · obtain rfl : k = th.length := by omega
        have hx := hO.out
        rw [List.take_length] at hx
        obtain ⟨a9, c9, b9, d9, rfl, rfl, -, -⟩ := hx.st.in_
        have hqb := hbl.block (w.heap.size + 1) (by have := ZS.out; omega)
        have q3 : wr.cell? ⟨w.heap.size + 1, 0, none⟩ = some (.slice none 0 0) := (World.cell?_of_block (w := W0) (a := ⟨w.heap.size + 1, 0, none⟩) hqb).trans r0
        have q4 : wr.cell? ⟨w.heap.size + 1, 1, none⟩ = some (.slice none 0 0) := (World.cell?_of_block (w := W0) (a := ⟨w.heap.size + 1, 1, none⟩) hqb).trans r1
        have q5 : wr.cell? ⟨w.heap.size + 1, 2, none⟩ = some (.bool false) := (World.cell?_of_block (w := W0) (a := ⟨w.heap.size + 1, 2, none⟩) hqb).trans r2
        have q6 : ∀ o, wr.frozen? ⟨w.heap.size + 1, o, none⟩ = false := fun o => (World.frozen?_of_block (w := W0) (a := ⟨w.heap.size + 1, o, none⟩) hqb).trans (rf o)
        obtain ⟨W3, e3, x0, x1, x2⟩ := three (W := wr) (B := w.heap.size + 1) (a := .slice a9 th.length c9) (b := .slice b9 mem.length d9) (c := .bool bad) q3 q4 q5
        have hpost : Hid (OwnPost w th mem bad (.returned (.agg #[.slice a9 th.length c9, .slice b9 mem.length d9, .bool bad])) W3) := by
          have hz := ZS.out
          refine ⟨_, _, B, rfl, ?_, ?_⟩
          · refine StW.down (n0 := W0.heap.size) ?_ (by omega)
            rw [e3]
            exact hx.st.grown (grown_trans (grown_trans (grown_set _ _ _ _) (grown_set _ _ _ _)) (grown_set _ _ _ _)) (by omega)
          · rw [e3]
            exact three_below (HB.out.trans (hbl.mono HB.out.size)) (by omega)
        obtain ⟨p9, p0, p1, p2, pf⟩ := hx.box
        have E3 := hid e3
        clear e3 hqb hx hbl
        go_wp2_with fail
        rw [← E3.out]
        refine bodyPost_ret ?_ rfl hpost.out
        simp [results, Tryz.results38, go_sem, x0, x1, x2]
end Go.Proofs.YtekmcoflagajkaaGreatDoor
