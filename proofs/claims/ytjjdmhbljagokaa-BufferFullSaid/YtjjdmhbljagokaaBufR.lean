/- Buffers made by numbers. -/
import Derived.Test.YtjjdmhbljagokaaBufO
namespace Go.Proofs.Ytjjdmhbljagokaa
open Go.RowKit Go.Sort

/-- Bytes lie where a slice leads. -/
def ByIn (w : World) (S : Nat → Prop) (a : Option Addr) (n cap : Nat) (cs : List Nat) : Prop :=
  n = cs.length ∧ (∀ c ∈ cs, c < 256) ∧ Sl w S 1 a cs.length cap (fun i => [.int .u8 ((cs[i]?.getD 0 : Nat) : Int)])
namespace ByIn
variable {w w' : World} {S S' : Nat → Prop} {a : Option Addr} {n cap : Nat} {cs : List Nat}
theorem keep (h : ByIn w S a n cap cs) (hk : ∀ b o, S b → w'.cell? ⟨b, o, none⟩ = w.cell? ⟨b, o, none⟩) : ByIn w' S a n cap cs := ⟨h.1, h.2.1, h.2.2.keep hk⟩
theorem widen (h : ByIn w S a n cap cs) (hS : ∀ b, S b → S' b) : ByIn w S' a n cap cs := ⟨h.1, h.2.1, h.2.2.widen hS⟩
theorem at_ (h : ByIn w S a n cap cs) (i : Nat) (hi : i < cs.length) : ∃ b off, a = some ⟨b, off, none⟩ ∧ S b ∧ w.cell? ⟨b, off + i, none⟩ = some (.int .u8 (cs[i] : Nat)) := by
  obtain ⟨b, off, rfl, hb, hc⟩ := h.2.2.at_ (by omega)
  refine ⟨b, off, rfl, hb, ?_⟩
  have := hc i hi 0 (by omega)
  simpa [hi] using this
end ByIn
theorem Kp.bytes {W0 w : World} (h : Kp W0 w) {a : Option Addr} {n cap : Nat} {cs : List Nat} (hx : ByIn W0 (In_ W0) a n cap cs) : ByIn w (In_ w) a n cap cs := (hx.keep fun b o hb => h.2 b o hb).widen (In_.mono h.1.size)

/-- The store of a number. -/
def mkE (c : Nat) : Int × Int := ((c % 3 : Nat), (c / 3 % 5 : Nat))
def madeL (cs : List Nat) : List (Int × Int) := (cs.take 12).map mkE
def MadePost (w : World) (l : List (Int × Int)) (e : Ending) (w' : World) : Prop :=
  ∃ a cap, e = .returned (.slice a l.length cap) ∧ EnIn w' (In_ w') a l.length cap l ∧ Below w.heap.size w w'

set_option maxRecDepth 100000 in
set_option maxHeartbeats 4000000 in
theorem made_any (a : Option Addr) (n cap : Nat) (cs : List Nat) (w : World) (hl : ByIn w (In_ w) a n cap cs) :
    Calls Try.prog 9 #[.slice a n cap] w (MadePost w (madeL cs)) := by
  have hn := hl.1
  subst hn
  have hcap := hl.2.2.le
  have hmx := hl.2.2.mx
  unfold maxLen at hmx
  go_enter Try.func9, Try.ntmps9
  go_wp2_with fail
  go_loopw [3, 4] (fun o i wr => ∃ k : Nat, k ≤ cs.length ∧ k ≤ 12 ∧ i = .int .i64 k ∧ Kp w wr ∧ (∃ a1 n1 c1, o = .slice a1 n1 c1) ∧
    Hid (wr.ownsRow w.heap.size 26 2 o ((cs.take k).map mkE).length (((cs.take k).map mkE).flatMap enC))) (fun _ i _ => 12 - (intOf i).toNat)
  case atStart => exact ⟨0, Nat.zero_le _, by omega, rfl, Kp.refl _, ⟨_, _, _, rfl⟩, World.ownsRow_nil _ _ _ _⟩
  case round =>
    obtain ⟨k, hk, hk12, rfl, hK, ⟨a1, n1, c1, rfl⟩, hown⟩ := hrel
    by_cases hlt : k < cs.length ∧ k < 12
    · obtain ⟨hlt, h12⟩ := hlt
      obtain ⟨bb, off, rfl, hbb, e0⟩ := hl.at_ k hlt
      have hts : Hid ((cs.take (k + 1)).map mkE = (cs.take k).map mkE ++ [mkE cs[k]]) := by show _ = _; rw [List.take_succ_eq_append_getElem hlt, List.map_append]; rfl
      have hle : Hid (((cs.take k).map mkE).length ≤ 12) := by show _ ≤ _; rw [List.length_map, List.length_take]; omega
      have hc := hl.2.1 cs[k] (List.getElem_mem hlt)
      generalize hC : (cs.take k).map mkE = C at *
      generalize hD : cs[k] = c at *
      clear hC hD
      have k0 : (0 : Int) ≤ k := by omega
      have k1 : (k : Int) < cs.length := by omega
      have k2 : (k : Int) < 12 := by omega
      have hbl := hbb.lt
      have g0 := hK.1.size
      have b0 : bb < wr.heap.size := by omega
      have e1 : (c : Int).tmod 3 = ((c % 3 : Nat) : Int) := by rw [Int.tmod_eq_emod_of_nonneg (by omega)]; omega
      have e2 : (c : Int) / 3 = ((c / 3 : Nat) : Int) := by omega
      have e3 : ((c / 3 : Nat) : Int).tmod 5 = ((c / 3 % 5 : Nat) : Int) := by rw [Int.tmod_eq_emod_of_nonneg (by omega)]; omega
      have w1 : IntKind.i64.wrap (c : Int) = c := IntWalk.i64_in _ (by omega)
      have w2 : IntKind.i64.wrap ((c : Int).tmod 3) = (c : Int).tmod 3 := IntWalk.i64_in _ (by omega)
      have w3 : IntKind.i64.wrap ((c : Int) / 3) = (c : Int) / 3 := IntWalk.i64_in _ (by omega)
      have w4 : IntKind.i64.wrap (((c : Int) / 3).tmod 5) = ((c : Int) / 3).tmod 5 := IntWalk.i64_in _ (by rw [e2, e3]; omega)
      have E1 := hid e1
      have E2 : Hid (((c : Int) / 3).tmod 5 = ((c / 3 % 5 : Nat) : Int)) := by show _ = _; rw [e2, e3]
      clear e1 e2 e3
      go_wp2_with fail
      go_region_held3 (Kp w)
        (first | exact Kp.alloc (by assumption) _ | exact hK.drew | exact Kp.drew (by assumption) | assumption | exact hk1)
        (first
          | (refine step_en (base := w.heap.size) (.tmp 15) (.tmp 30) (.slice a1 n1 c1) C.length (C.flatMap enC) 1 [.int .i64 ((c : Int).tmod 3), .int .i64 (((c : Int) / 3).tmod 5)] ?_ ?_ ?_ ?_ ?_ ?_ ?_ ?_ ?_;
             (focus rfl); (focus rfl); (focus rfl); (focus exact hown.out.alloc _); (focus (first | exact ⟨_, _, rfl, src_new rfl⟩ | exact ⟨_, _, rfl, src_new_d rfl⟩)); (focus exact one_cells); (focus (have := hle.out; omega)); (focus (simp; omega));
             intro v2 w2' hown2 hg2 hat2;
             have hk1 : Kp w w2' := Kp.grown (by assumption) hg2 (fun k hk => (hown.out.lt k hk).1);
             have hown3 : Hid (w2'.ownsRow w.heap.size 26 2 v2 (C ++ [mkE c]).length ((C ++ [mkE c]).flatMap enC)) := (by have h := hown2; rw [E1.out, E2.out] at h; show World.ownsRow _ _ _ _ _ _ _; simpa [enC, mkE] using h);
             obtain ⟨a3, cap3, rfl, hen⟩ := EnIn.of_own hown3.out)
          | fail)
      rename_i hKp
      clear hown2 hg2 hat2 hen E1 E2 w1 w2 w3 w4
      go_wp2_with fail
      go_roundw
      case rel => exact ⟨k + 1, by omega, by omega, by simp, hKp, ⟨_, _, _, rfl⟩, by rw [hts.out]; have h := hown3.out; show World.ownsRow _ _ _ _ _ _ _; simpa using h⟩
      case measure => simp [intOf]; omega
    · have hend : Hid (madeL cs = (cs.take k).map mkE) := by
        show _ = _
        unfold madeL
        congr 1
        by_cases h12 : k = 12
        · rw [h12]
        · have hkl : k = cs.length := by omega
          rw [hkl, List.take_length, List.take_of_length_le (by omega)]
      obtain ⟨a3, cap3, ha3, hen⟩ := EnIn.of_own hown.out
      cases ha3
      have hfin : Hid (MadePost w (madeL cs) (.returned (.slice a1 ((cs.take k).map mkE).length c1)) wr) := by
        rw [hend.out]
        exact ⟨a1, c1, rfl, hen.widen fun b hb => hb.2, hK.1⟩
      clear hen hown hend
      generalize hC : ((cs.take k).map mkE).length = N at *
      clear hC
      have hx : ¬ (k : Int) < cs.length ∨ ((k : Int) < cs.length ∧ ¬ (k : Int) < 12) := by omega
      rcases hx with hx | ⟨hx, hy⟩
      · go_wp2_with fail
        go_ret
        exact hfin.out
      · go_wp2_with fail
        go_ret
        exact hfin.out
end Go.Proofs.Ytjjdmhbljagokaa
