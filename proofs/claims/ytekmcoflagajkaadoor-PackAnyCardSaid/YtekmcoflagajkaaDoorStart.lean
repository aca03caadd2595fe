/- The first state. -/
import Derived.Test.YtekmcoflagajkaaDoorUnpR
import Derived.Test.YtekmcoflagajkaaDoorCodD
namespace Go.Proofs.YtekmcoflagajkaaDoor
open Go.RowKit

def StartPost (w : World) (th : List Thr) (mem : List Int) (e : Ending) (w' : World) : Prop :=
  ∃ ah caph am capm, e = .returned (.agg #[.slice ah th.length caph, .slice am mem.length capm, .bool false]) ∧ ThrIn w' (In_ w') ah th.length caph th ∧ IntIn w' (In_ w') am mem.length capm mem ∧ Below w.heap.size w w'
def startT (r : Bool) (n : Nat) : List Thr := if r then List.replicate n .zero else []
def startM (r : Bool) (vars : Int) : List Int := if r then List.replicate vars.toNat 0 else []

set_option maxRecDepth 100000 in
set_option maxHeartbeats 8000000 in
theorem start_any (vars dom : Int) (ac : Option Addr) (nc capc : Nat) (t : List (List Ins)) (w : World) (hc : ThsIn w (In_ w) ac nc capc t) :
    Calls Tryd.prog 8 #[.agg #[.int .i64 vars, .int .i64 dom, .slice ac nc capc]] w (StartPost w (startT (rightL vars dom t) t.length) (startM (rightL vars dom t) vars)) := by
  have hn1 := hc.1
  subst hn1
  have hmx := hc.le
  have hmx2 := hc.mx
  unfold maxLen at hmx2
  obtain ⟨W0, hW⟩ : ∃ W0, W0 = ((w.alloc (.cells #[.int .i64 vars, .int .i64 dom, .slice ac t.length capc] 24)).alloc (.cells #[.slice none 0 0, .slice none 0 0, .bool false] 30)).alloc (.cells #[.slice none 0 0, .slice none 0 0, .bool false] 30) := ⟨_, rfl⟩
  have hB : Below w.heap.size w W0 := by subst hW; exact (((Below.refl _ _).alloc (Nat.le_refl _) _).alloc (by simp) _).alloc (by simp; omega) _
  have z2 : w.heap.size + 1 + 1 < W0.heap.size := by subst hW; simp
  have z1 : w.heap.size + 1 < W0.heap.size := by omega
  have z0 : w.heap.size < W0.heap.size := by omega
  have c0 : W0.cell? ⟨w.heap.size, 0, none⟩ = some (.int .i64 vars) := by subst hW; go_simp
  have c2 : W0.cell? ⟨w.heap.size, 2, none⟩ = some (.slice ac t.length capc) := by subst hW; go_simp
  have r0 : W0.cell? ⟨w.heap.size + 1, 0, none⟩ = some (.slice none 0 0) := by subst hW; go_simp
  have r1 : W0.cell? ⟨w.heap.size + 1, 1, none⟩ = some (.slice none 0 0) := by subst hW; go_simp
  have r2 : W0.cell? ⟨w.heap.size + 1, 2, none⟩ = some (.bool false) := by subst hW; go_simp
  have rf : ∀ o, W0.frozen? ⟨w.heap.size + 1, o, none⟩ = false := by subst hW; intro o; go_simp
  have hX0 : SBox W0 (w.heap.size + 1 + 1) (.slice none 0 0) (.slice none 0 0) false := by
    subst hW
    refine ⟨by simp, ?_, ?_, ?_, fun o => ?_⟩ <;> go_simp
  have s0 := hX0.c0
  have s1 := hX0.c1
  have s2 := hX0.c2
  have hright := hid (refRight_any vars dom ac t.length capc t W0 ((Kp.of hB).ths hc))
  have hvs : Hid (rightL vars dom t = true → 1 ≤ vars ∧ vars ≤ 4 ∧ 1 ≤ t.length ∧ t.length ≤ 4) := fun h => by
    unfold rightL at h
    simp only [Bool.and_eq_true, decide_eq_true_eq] at h
    omega
  generalize rightL vars dom t = y at *
  have HB := hid hB
  have hWx := hid hW
  clear hW hB hc
  go_enter Tryd.func8, Tryd.ntmps8
  go_wp2_with fail
  rw [← hWx.out]
  refine hright.out.mono ?_
  rintro e w1 ⟨rfl, hb1⟩
  have hK1 : Kp W0 w1 := Kp.of hb1
  have HK1 := hid hK1
  have hX1 := hid (SBox.block hX0 hb1.size (hb1.block _ hX0.lt))
  have hf1 : ∀ o, w1.frozen? ⟨w.heap.size + 1, o, none⟩ = false := fun o => (hb1.frozen (p := ⟨w.heap.size + 1, o, none⟩) z1).trans (rf o)
  have g1 := hK1.1.size
  clear hright hWx hb1 hX0 rf
  cases y
  · obtain ⟨W3, e3, x0, x1, x2⟩ := three (W := w1) (B := w.heap.size + 1) (a := .slice none 0 0) (b := .slice none 0 0) (c := .bool false) ((hK1.2 _ _ z1).trans r0) ((hK1.2 _ _ z1).trans r1) ((hK1.2 _ _ z1).trans r2)
    have hfin := hid (three_below (a := .slice none 0 0) (b := .slice none 0 0) (c := .bool false) (Kp.fin HB.out HK1.out) (show w.heap.size ≤ w.heap.size + 1 by omega))
    rw [← e3] at hfin
    have E3 := hid e3
    clear e3
    go_wp2_with fail
    rw [← E3.out]
    refine bodyPost_ret (v := .agg #[.slice none 0 0, .slice none 0 0, .bool false]) ?_ rfl ⟨none, 0, none, 0, rfl, ThrIn.nil_, IntIn.nil_, hfin.out⟩
    simp [results, Tryd.results8, go_sem, x0, x1, x2]
  obtain ⟨v1, v4, t1, t4⟩ := hvs.out rfl
  obtain ⟨vn, hvn⟩ : ∃ vn : Nat, vars = vn := ⟨vars.toNat, by omega⟩
  subst hvn
  have z12 : w.heap.size + 1 + 1 < w1.heap.size := by omega
  have z11 : w.heap.size < w1.heap.size := by omega
  have HX := hX1
  have hth0 : Hid (ThO w1 w1.heap.size (.slice none 0 0) (List.replicate 0 Thr.zero)) := ThO.nil
  have n0 : w1.cell? ⟨w.heap.size, 0, none⟩ = some (.int .i64 vn) := (hK1.2 _ _ z0).trans c0
  have n2 : w1.cell? ⟨w.heap.size, 2, none⟩ = some (.slice ac t.length capc) := (hK1.2 _ _ z0).trans c2
  have hbel : Hid (Below w.heap.size w w1) := Kp.fin HB.out HK1.out
  have q0 := (hK1.2 _ 0 z1).trans r0
  have q1 := (hK1.2 _ 1 z1).trans r1
  have q2 := (hK1.2 _ 2 z1).trans r2
  clear hK1 HK1 s0 s1 s2 r0 r1 r2 c0 c2 z0 z1 z2 g1
  go_wp2_with fail
  go_loopw [4] (fun i wr => ∃ (k : Nat) (v : Value), k ≤ t.length ∧ i = .int .i64 k ∧ Hid (w1.grownBy wr (some (w.heap.size + 1 + 1))) ∧ Hid (SBox wr (w.heap.size + 1 + 1) v (.slice none 0 0) false) ∧ Hid (ThO wr w1.heap.size v (List.replicate k Thr.zero))) (fun i _ => t.length - (intOf i).toNat)
  case atStart => exact ⟨0, _, Nat.zero_le _, rfl, ⟨rfl, rfl, rfl, Nat.le_refl _, fun _ _ _ => rfl⟩, HX.out, hth0.out⟩
  case round =>
    obtain ⟨k, v, hk, rfl, hG, hS, hO⟩ := hrel
    have ncode : wr.cell? ⟨w.heap.size, 2, none⟩ = some (.slice ac t.length capc) := (World.cell?_of_block (w := w1) (a := ⟨w.heap.size, 2, none⟩) (hG.out.block _ z11 (by simp; omega))).trans n2
    have ncode0 : wr.cell? ⟨w.heap.size, 0, none⟩ = some (.int .i64 vn) := (World.cell?_of_block (w := w1) (a := ⟨w.heap.size, 0, none⟩) (hG.out.block _ z11 (by simp; omega))).trans n0
    have gz := hG.out.size
    by_cases hlt : k < t.length
    · obtain ⟨LL, hLL, hown, hen⟩ := hO.out
      obtain ⟨av, cv, rfl⟩ := own_at hown
      have hLLn : LL.length = k := by have h := congrArg List.length hLL; rw [List.length_map, List.length_replicate] at h; exact h.symm
      have HLL := hid hLL
      have Hown := hid hown
      have Hen := hid hen
      have hLn := hid hLLn
      have hLb : LL.length ≤ 4 := by omega
      obtain ⟨p9, p0, p1, p2, pf⟩ := hS.out
      have pf0 := pf 0
      have k0 : (0 : Int) ≤ k := by omega
      clear hLL hown hen pf hO hLLn
      go_wp2_with (first
        | (at_builtin
           refine list_th (base := w1.heap.size) (.tmp 18) (.tmp 20) (.slice av LL.length cv) LL.length (LL.flatMap thC) 1 (thC (Thr.zero, none, 0)) ?_ ?_ ?_ ?_ ?_ ?_ ?_ ?_ ?_
           (focus rfl); (focus rfl); (focus rfl); (focus exact Hown.out.alloc _); (focus exact ⟨_, _, rfl, src_at rfl rfl⟩); (focus exact thC_one [(Thr.zero, none, 0)]); (focus omega); (focus (simp; omega))
           intro v8 w8 hown8 hg8 hat8
           have hgp := hid (grown_pre' hg8)
           have hap := hid (at_pre hat8)
           have hr8 : Hid ((Value.slice av LL.length cv).ownBlock ≠ some (w.heap.size + 1 + 1)) := fun e => by have := (Hown.out.lt _ e).1; omega
           have HS8 := hid (hS.out.grown hgp.out hr8.out)
           have hG8 : Hid (w1.grownBy w8 (some (w.heap.size + 1 + 1))) := grown_new hG.out hgp.out (fun n hn => (Hown.out.lt n hn).1)
           have HO8 : Hid (ThO w8 w1.heap.size v8 (LL.map (·.1) ++ [Thr.zero])) := ThO.app (ar := none) (kr := 0) hown8 hgp.out hap.out Hen.out EnIn.nil_
           obtain ⟨x9, x0, x1, x2, xf⟩ := HS8.out
           have xf0 := xf 0
           obtain ⟨a9, c9, rfl⟩ := own_at hown8
           clear hown8 hg8 hat8 hgp hap hr8 xf)
        | fail)
      have hGn : Hid (w1.grownBy (w8.setCell ⟨w.heap.size + 1 + 1, 0, none⟩ (.slice a9 (LL.length + 1) c9)) (some (w.heap.size + 1 + 1))) := grown_trans hG8.out (grown_set _ _ _ _)
      have hSn : Hid (SBox (w8.setCell ⟨w.heap.size + 1 + 1, 0, none⟩ (.slice a9 (LL.length + 1) c9)) (w.heap.size + 1 + 1) (.slice a9 (LL.length + 1) c9) (.slice none 0 0) false) := by
        have hpf := HS8.out.f0
        refine ⟨by simpa [World.setCell] using x9, ?_, ?_, ?_, fun o => frozen_set (hpf o)⟩ <;> go_simp
      have hOn : Hid (ThO (w8.setCell ⟨w.heap.size + 1 + 1, 0, none⟩ (.slice a9 (LL.length + 1) c9)) w1.heap.size (.slice a9 (LL.length + 1) c9) (List.replicate (k + 1) Thr.zero)) := by
        have h := ThO.grown HO8.out (grown_set w8 (w.heap.size + 1 + 1) 0 (.slice a9 (LL.length + 1) c9)) (fun n hn => by simp at hn; omega)
        rw [← HLL.out, ← List.replicate_succ'] at h
        exact h
      clear HS8 HO8 hG8 x9 x0 x1 x2 xf0 p9 p0 p1 p2 pf0
      go_roundw
      case rel => exact ⟨k + 1, _, by omega, by simp, hGn, hSn, hOn⟩
      case measure => simp [intOf]; omega
    · obtain rfl : k = t.length := by omega
      obtain ⟨W5, rfl⟩ : ∃ W5 : World, W5 = wr := ⟨_, rfl⟩
      go_wp2_with fail
      go_loopw [5] (fun i wr => ∃ (k : Nat) (mv : Value), k ≤ vn ∧ i = .int .i64 k ∧ Hid (W5.grownBy wr (some (w.heap.size + 1 + 1))) ∧ Hid (SBox wr (w.heap.size + 1 + 1) v mv false) ∧ Hid (NumIs wr W5.heap.size mv (List.replicate k 0))) (fun i _ => vn - (intOf i).toNat)
      case atStart => exact ⟨0, _, Nat.zero_le _, rfl, ⟨rfl, rfl, rfl, Nat.le_refl _, fun _ _ _ => rfl⟩, hS.out, NumIs.nil⟩
      case round =>
        clear ncode ncode0
        obtain ⟨k, mv, hk, rfl, hG6, hS6, hN6⟩ := hrel
        have z15 : w.heap.size < W5.heap.size := by omega
        have ncode0 : wr.cell? ⟨w.heap.size, 0, none⟩ = some (.int .i64 vn) := (World.cell?_of_block (w := W5) (a := ⟨w.heap.size, 0, none⟩) (hG6.out.block _ z15 (by simp; omega))).trans ((World.cell?_of_block (w := w1) (a := ⟨w.heap.size, 0, none⟩) (hG.out.block _ z11 (by simp; omega))).trans n0)
        have gz6 := hG6.out.size
        by_cases hlt : k < vn
        · obtain ⟨⟨a1, n1, c1', rfl⟩, hown⟩ := hN6.out
          have hown := hid hown
          obtain ⟨p9, p0, p1, p2, pf⟩ := hS6.out
          have pf1 := pf 1
          have hle : Hid ((List.replicate k (0 : Int)).length ≤ 4) := by show _ ≤ _; rw [List.length_replicate]; omega
          have hsucc : Hid (List.replicate (k + 1) (0 : Int) = List.replicate k 0 ++ [0]) := List.replicate_succ'
          have k0 : (0 : Int) ≤ k := by omega
          have k1 : (k : Int) < vn := by omega
          generalize List.replicate k (0 : Int) = C at *
          clear pf hN6
          go_wp2_with (first
            | (at_builtin
               refine list_i6 (base := W5.heap.size) (.tmp 30) (.tmp 31) (.slice a1 n1 c1') C.length (C.map (Value.int .i64)) 1 [.int .i64 0] ?_ ?_ ?_ ?_ ?_ ?_ ?_ ?_ ?_
               (focus rfl); (focus rfl); (focus rfl); (focus exact hown.out.alloc _); (focus exact ⟨_, _, rfl, src_at rfl rfl⟩); (focus exact one_i6); (focus (have := hle.out; omega)); (focus (simp; omega))
               intro v8 w8 hown8 hg8 hat8
               have hgp := hid (grown_pre' hg8)
               have hr8 : Hid ((Value.slice a1 n1 c1').ownBlock ≠ some (w.heap.size + 1 + 1)) := fun e => by have := (hown.out.lt _ e).1; omega
               have HS8 := hid (hS6.out.grown hgp.out hr8.out)
               have hG8 : Hid (W5.grownBy w8 (some (w.heap.size + 1 + 1))) := grown_new hG6.out hgp.out (fun n hn => (hown.out.lt n hn).1)
               have HO8 := hid (NumIs.app (L := C) (news := [0]) hown8)
               obtain ⟨x9, x0, x1, x2, xf⟩ := HS8.out
               have xf1 := xf 1
               clear hown8 hg8 hat8 hgp hr8 xf
               obtain ⟨⟨a6, n6, c6, rfl⟩, _⟩ := HO8.out)
            | fail)
          have hGn : Hid (W5.grownBy (w8.setCell ⟨w.heap.size + 1 + 1, 1, none⟩ (.slice a6 n6 c6)) (some (w.heap.size + 1 + 1))) := grown_trans hG8.out (grown_set _ _ _ _)
          have hSn : Hid (SBox (w8.setCell ⟨w.heap.size + 1 + 1, 1, none⟩ (.slice a6 n6 c6)) (w.heap.size + 1 + 1) v (.slice a6 n6 c6) false) := by
            have hpf := HS8.out.f0
            refine ⟨by simpa [World.setCell] using x9, ?_, ?_, ?_, fun o => frozen_set (hpf o)⟩ <;> go_simp
          have hNn : Hid (NumIs (w8.setCell ⟨w.heap.size + 1 + 1, 1, none⟩ (.slice a6 n6 c6)) W5.heap.size (.slice a6 n6 c6) (List.replicate (k + 1) 0)) := by
            show NumIs _ _ _ _
            rw [hsucc.out]
            exact ⟨HO8.out.1, ownsRow_setCell_below HO8.out.2 (a := ⟨w.heap.size + 1 + 1, 1, none⟩) (by show w.heap.size + 1 + 1 < _; omega) _⟩
          clear HS8 HO8 hG8 x9 x0 x1 x2 xf1 p9 p0 p1 p2 pf1
          go_roundw
          case rel => exact ⟨k + 1, _, by omega, by simp, hGn, hSn, hNn⟩
          case measure => simp [intOf]; omega
        · obtain rfl : k = vn := by omega
          obtain ⟨p9, p0, p1, p2, pf⟩ := hS6.out
          have hO6 := ThO.in_ hO.out
          obtain ⟨ah, caph, rfl, hthr⟩ := hO6
          obtain ⟨am, capm, hmv, hmi⟩ := IntIn.of_own hN6.out.2
          subst hmv
          have HTH := hid hthr
          have HMI := hid hmi
          have hqb := hG6.out.block (w.heap.size + 1) (by omega) (by simp)
          have hqb2 := hG.out.block (w.heap.size + 1) (by omega) (by simp)
          have q3 : wr.cell? ⟨w.heap.size + 1, 0, none⟩ = some (.slice none 0 0) := (World.cell?_of_block (w := W5) (a := ⟨w.heap.size + 1, 0, none⟩) hqb).trans ((World.cell?_of_block (w := w1) (a := ⟨w.heap.size + 1, 0, none⟩) hqb2).trans q0)
          have q4 : wr.cell? ⟨w.heap.size + 1, 1, none⟩ = some (.slice none 0 0) := (World.cell?_of_block (w := W5) (a := ⟨w.heap.size + 1, 1, none⟩) hqb).trans ((World.cell?_of_block (w := w1) (a := ⟨w.heap.size + 1, 1, none⟩) hqb2).trans q1)
          have q5 : wr.cell? ⟨w.heap.size + 1, 2, none⟩ = some (.bool false) := (World.cell?_of_block (w := W5) (a := ⟨w.heap.size + 1, 2, none⟩) hqb).trans ((World.cell?_of_block (w := w1) (a := ⟨w.heap.size + 1, 2, none⟩) hqb2).trans q2)
          have q6 : ∀ o, wr.frozen? ⟨w.heap.size + 1, o, none⟩ = false := fun o => (World.frozen?_of_block (w := W5) (a := ⟨w.heap.size + 1, o, none⟩) hqb).trans ((World.frozen?_of_block (w := w1) (a := ⟨w.heap.size + 1, o, none⟩) hqb2).trans (hf1 o))
          obtain ⟨W3, e3, x0, x1, x2⟩ := three (W := wr) (B := w.heap.size + 1) (a := .slice ah t.length caph) (b := .slice am k capm) (c := .bool false) q3 q4 q5
          have hz3 : W3.heap.size = wr.heap.size := by rw [e3, three_size]
          have hpost : Hid (StartPost w (startT true t.length) (startM true k) (.returned (.agg #[.slice ah t.length caph, .slice am k capm, .bool false])) W3) := by
            refine ⟨ah, caph, am, capm, ?_, ?_, ?_, ?_⟩
            · show _ = Ending.returned (.agg #[.slice ah (List.replicate t.length Thr.zero).length caph, .slice am (List.replicate k (0 : Int)).length capm, .bool false])
              rw [List.length_replicate, List.length_replicate]
            · refine (HTH.out.keep fun n o hn => ?_).widen fun n hn => ?_
              · have h1 : w1.heap.size ≤ n := hn.1
                have h2 : n < W5.heap.size := hn.2
                have hkx : n ≠ w.heap.size + 1 := by omega
                rw [e3, three_cell n o hkx]
                exact World.cell?_of_block (w := W5) (a := ⟨n, o, none⟩) (hG6.out.block n h2 (by simp; omega))
              · have h2 : n < W5.heap.size := hn.2
                show n < _
                omega
            · refine (HMI.out.keep fun n o hn => ?_).widen fun n hn => ?_
              · have h1 : W5.heap.size ≤ n := hn.1
                have hkx : n ≠ w.heap.size + 1 := by omega
                rw [e3, three_cell n o hkx]
              · have h2 : n < wr.heap.size := hn.2
                show n < _
                omega
            · rw [e3]
              refine three_below ?_ (by omega)
              exact (hbel.out.trans (grown_below hG.out (by omega) (fun n hn => by simp at hn; omega))).trans (grown_below hG6.out (by omega) (fun n hn => by simp at hn; omega))
          have E3 := hid e3
          clear e3 hthr hmi hqb hqb2 hN6
          go_wp2_with fail
          rw [← E3.out]
          refine bodyPost_ret ?_ rfl hpost.out
          simp [results, Tryd.results8, go_sem, x0, x1, x2]
end Go.Proofs.YtekmcoflagajkaaDoor
