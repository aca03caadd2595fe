/- The document's Right and Print; parsed: the program's Parse and the document's agree. -/
import Derived.Test.YtogopcejapklgaaGreatDoorBunT
import Derived.Test.YtogopcejapklgaaGreatDoorBunE
import Derived.Test.YtogopcejapklgaaGreatDoorBunY
import Derived.Test.YtogopcejapklgaaGreatDoorBunR
import Derived.Test.YtogopcejapklgaaGreatDoorBunC
import Derived.Deep.CutRange
namespace Go.Proofs.YtogopcejapklgaaGreatDoor
open Go Go.RowKit

set_option maxHeartbeats 4000000 in
theorem rRight_any (f : Fm) (a : Option Addr) (cap : Nat) (w : World) (hok : okD 20 f) (hs : f.size ≤ 200) (hin : FmIn w (In_ w) (fmC f.kind f.prop a f.kids.length cap) f) :
    Calls Tryz.prog 15 #[.agg #[.int .i64 f.kind, .int .i64 f.prop.k, .int .i64 f.prop.t, .int .i64 f.prop.a, .int .i64 f.prop.n, .slice a f.kids.length cap]] w fun e w' => e = .returned (.bool true) ∧ Below w.heap.size w w' := by
  have HR := hid (fun W (hb : Below w.heap.size w W) => rright_all 20 f a cap 20 W hok hs (by omega) (by omega) ((hin.keep fun b o hlt => hb.cell (p := ⟨b, o, none⟩) hlt).widen fun b hlt => Nat.lt_of_lt_of_le hlt hb.size))
  clear hin hok hs
  generalize f.kind = kd at *
  generalize f.prop.k = pk at *
  generalize f.prop.t = pt at *
  generalize f.prop.a = pa at *
  generalize f.prop.n = pn at *
  generalize f.kids.length = kl at *
  generalize f.size = S at *
  go_enter Tryz.func15, Tryz.ntmps15
  go_upto_region 1 with fail
  generalize hW : World.alloc w _ = W1
  have hB1 : Hid (Below w.heap.size w W1) := by subst hW; exact (Below.refl _ _).alloc (Nat.le_refl _) _
  have hh : W1.heap[w.heap.size]? = some (.cells #[.int .i64 kd, .int .i64 pk, .int .i64 pt, .int .i64 pa, .int .i64 pn, .slice a kl cap] 30 (0, 0)) := by subst hW; exact alloc_at rfl
  have z0 := cell_of_heap (j := 0) hh
  have z1 := cell_of_heap (j := 1) hh
  have z2 := cell_of_heap (j := 2) hh
  have z3 := cell_of_heap (j := 3) hh
  have z4 := cell_of_heap (j := 4) hh
  have z5 := cell_of_heap (j := 5) hh
  simp at z0 z1 z2 z3 z4 z5
  clear hW hh
  go_wp2_with (first
    | (go_at_call 29
       with_reducible refine (HR.out W1 hB1.out).mono ?_
       rintro e w2 ⟨rfl, hb2⟩
       have hB2 := hid (hB1.out.trans (hb2.mono hB1.out.size))
       clear hb2)
    | fail)
  go_ret
  exact ⟨rfl, hB2.out⟩

set_option maxHeartbeats 4000000 in
theorem rprint_any (f : Fm) (a : Option Addr) (cap : Nat) (w : World) (hok : okD 20 f) (hs : f.size ≤ 200) (hin : FmIn w (In_ w) (fmC f.kind f.prop a f.kids.length cap) f) :
    Calls Tryz.prog 5 #[.agg #[.int .i64 f.kind, .int .i64 f.prop.k, .int .i64 f.prop.t, .int .i64 f.prop.a, .int .i64 f.prop.n, .slice a f.kids.length cap]] w
      fun e w' => ∃ t : ByteArray, e = .returned (.tuple #[.string t, .int .i64 0]) ∧ t.size ≤ 40 * f.size ∧ Below w.heap.size w w' := by
  have hin' : ∀ W, Below w.heap.size w W → FmIn W (In_ W) (fmC f.kind f.prop a f.kids.length cap) f := fun W hb => (hin.keep fun b o hlt => hb.cell (p := ⟨b, o, none⟩) hlt).widen fun b hlt => Nat.lt_of_lt_of_le hlt hb.size
  have HR := hid (fun W (hb : Below w.heap.size w W) => rRight_any f a cap W hok hs (hin' W hb))
  have HT := hid (fun W (hb : Below w.heap.size w W) => text_all13 20 f a cap W hok hs (hin' W hb))
  unfold TxP at HT
  clear hin hin' hok hs
  generalize f.kind = kd at *
  generalize f.prop.k = pk at *
  generalize f.prop.t = pt at *
  generalize f.prop.a = pa at *
  generalize f.prop.n = pn at *
  generalize f.kids.length = kl at *
  generalize f.size = S at *
  go_enter Tryz.func5, Tryz.ntmps5
  go_upto_region 1 with fail
  generalize hW : World.alloc w _ = W1
  have hB1 : Hid (Below w.heap.size w W1) := by subst hW; exact (Below.refl _ _).alloc (Nat.le_refl _) _
  have hh : W1.heap[w.heap.size]? = some (.cells #[.int .i64 kd, .int .i64 pk, .int .i64 pt, .int .i64 pa, .int .i64 pn, .slice a kl cap] 30 (0, 0)) := by subst hW; exact alloc_at rfl
  have hz1 : w.heap.size < W1.heap.size := (Array.getElem?_eq_some_iff.1 hh).1
  have z0 := cell_of_heap (j := 0) hh
  have z1 := cell_of_heap (j := 1) hh
  have z2 := cell_of_heap (j := 2) hh
  have z3 := cell_of_heap (j := 3) hh
  have z4 := cell_of_heap (j := 4) hh
  have z5 := cell_of_heap (j := 5) hh
  simp at z0 z1 z2 z3 z4 z5
  have Hh := hid hh
  clear hW hh
  go_wp2_with (first
    | (go_at_call 15
       with_reducible refine (HR.out W1 hB1.out).mono ?_
       rintro e w2 ⟨rfl, hb2⟩
       have hB2 := hid (hB1.out.trans (hb2.mono hB1.out.size))
       have hh2 := (hb2.block _ hz1).trans Hh.out
       have z0 := cell_of_heap (j := 0) hh2
       have z1 := cell_of_heap (j := 1) hh2
       have z2 := cell_of_heap (j := 2) hh2
       have z3 := cell_of_heap (j := 3) hh2
       have z4 := cell_of_heap (j := 4) hh2
       have z5 := cell_of_heap (j := 5) hh2
       simp at z0 z1 z2 z3 z4 z5
       clear hb2 hh2)
    | (go_at_call 16
       with_reducible refine (HT.out w2 hB2.out).mono ?_
       rintro e w3 ⟨t, rfl, ht, hb3⟩
       have hB3 := hid (hB2.out.trans (hb3.mono hB2.out.size))
       clear hb3)
    | fail)
  go_ret2
  exact ⟨t, rfl, ht, hB3.out⟩

set_option maxRecDepth 100000 in
set_option maxHeartbeats 8000000 in
theorem parsed_any (s : ByteArray) (w : World) (hV : Vars w) : Calls Tryz.prog 8 #[.string s] w fun e w' => e = .returned (.bool true) ∧ Below w.heap.size w w' := by
  have HL := hid (fun W (hb : Below w.heap.size w W) => lparse_any s W (hV.next hb))
  have HR := hid (fun W => rparse_any s W)
  unfold PrsPost at HL HR
  generalize prsR s.data.toList = pr at *
  obtain ⟨f, er, at_⟩ := pr
  dsimp only at HL HR
  go_enter Tryz.func8, Tryz.ntmps8
  go_upto_region 2 with (first
    | (go_at_call 12
       with_reducible refine (HL.out w (Below.refl _ _)).mono ?_
       rintro e w1 ⟨a, cap, rfl, hF, hb1⟩
       have HF := hid hF
       have HB1 := hid hb1
       clear hb1 hF)
    | fail)
  generalize hW : World.alloc w1 _ = W1
  have H1 : Hid (RgS w W1 w1.heap.size f a cap) := by subst hW; exact hid (RgS.new HB1.out HF.out)
  generalize w1.heap.size = B at *
  clear hW HF HB1 HL
  go_upto_region 3 with (first
    | (go_at_call 22
       with_reducible refine (HR.out W1).mono ?_
       rintro e w2 ⟨a2, cap2, rfl, hF, hb2⟩
       have H2 := hid (H1.out.below hb2)
       have HF := hid hF
       clear hb2 hF)
    | fail)
  generalize hW : World.alloc w2 _ = W2
  have HA : Hid (Below w2.heap.size w2 W2) := by subst hW; exact hid ((Below.refl _ _).alloc (Nat.le_refl _) _)
  have H3 : Hid (RgS w W2 B f a cap) := hid (H2.out.below HA.out)
  have H4 : Hid (RgS w2 W2 w2.heap.size f a2 cap2) := by subst hW; exact hid (RgS.new (Below.refl _ _) HF.out)
  generalize w2.heap.size = B2 at *
  clear hW HF HA H1 H2 HR
  obtain ⟨z0, z1, z2, z3, z4, z5⟩ := H3.out.six
  obtain ⟨y0, y1, y2, y3, y4, y5⟩ := H4.out.six
  have HS : Hid (Calls Tryz.prog 13 #[.agg #[.int .i64 f.kind, .int .i64 f.prop.k, .int .i64 f.prop.t, .int .i64 f.prop.a, .int .i64 f.prop.n, .slice a f.kids.length cap], .agg #[.int .i64 f.kind, .int .i64 f.prop.k, .int .i64 f.prop.t, .int .i64 f.prop.a, .int .i64 f.prop.n, .slice a2 f.kids.length cap2]] W2 fun e w' => e = .returned (.bool true) ∧ Below W2.heap.size W2 w') := by
    have h := rsame_any f f _ _ W2 H3.out.fm H4.out.fm
    rw [eqF_self] at h
    exact hid h
  have e1 : (er == er) = true := by simp
  have e2 : (at_ == at_) = true := by simp
  go_wp2_with (first
    | (go_at_call 13
       with_reducible refine HS.out.mono ?_
       rintro e w3 ⟨rfl, hb3⟩
       have H5 := hid (H3.out.below hb3)
       clear hb3)
    | fail)
  go_ret
  exact ⟨rfl, H5.out.bl⟩
end Go.Proofs.YtogopcejapklgaaGreatDoor
namespace Go.Proofs.YtogopcejapklgaaGreatDoor
open Go Go.RowKit

set_option maxRecDepth 100000 in
set_option maxHeartbeats 16000000 in
theorem logicSmall_walk (al : Option Addr) (nl cl : Nat) (l : List Nat) (at_ by_ how : Nat) (w : World) (hV : Vars w) (hl : ByIn w (In_ w) al nl cl l) (ha : at_ < 256) (hb : by_ < 256) (hh : how < 256) :
    Calls Tryz.prog 3 #[.slice al nl cl, .int .u8 at_, .int .u8 by_, .int .u8 how] w fun e w' => e = .returned (.bool true) ∧ Below w.heap.size w w' := by
  have HMf : Hid (∀ W, Below w.heap.size w W → Calls Tryz.prog 6 #[.slice al nl cl, .int .i64 20] W (MadeP W)) := hid fun W hb => made_any ⟨al, nl, cl, l⟩ W ((Kp.of hb).bytes hl)
  have HPi : Hid (∀ W, Below w.heap.size w W → Calls Tryz.prog 9 #[.slice al nl cl] W (PiePost l W)) := hid fun W hb => pieces_any al nl cl l W ((Kp.of hb).bytes hl)
  have HAw : Hid (∀ W, Below w.heap.size w W → Calls Tryz.prog 7 #[] W fun e w' => e = .returned (.bool true) ∧ Below W.heap.size W w') := hid fun W hb => awake_any W (hV.next hb)
  have HPa : Hid (∀ (s : ByteArray) W, Below w.heap.size w W → Calls Tryz.prog 8 #[.string s] W fun e w' => e = .returned (.bool true) ∧ Below W.heap.size W w') := hid fun s W hb => parsed_any s W (hV.next hb)
  unfold PiePost at HPi
  unfold MadeP at HMf
  clear hV hl
  go_enter Tryz.func3, Tryz.ntmps3
  go_upto_region 2 with (first
    | (go_at_call 6
       with_reducible refine (HMf.out w (Below.refl _ _)).mono ?_
       rintro e w1 ⟨f, fa, fc, rfl, hfo, hfs, hff, hb1⟩
       have HB1 := hid hb1
       have HPr := hid (rprint_any f fa fc w1 (okD_up (show 6 ≤ 20 by omega) f hfo) (by omega) hff)
       clear hb1 hfo hff)
    | (go_at_call 5
       with_reducible refine HPr.out.mono ?_
       rintro e w2 ⟨s, rfl, hs, hb2⟩
       have HB2 := hid (HB1.out.trans (hb2.mono HB1.out.size))
       have hs3 : s.size ≤ 3000 := by omega
       clear hb2 hs)
    | fail)
  obtain ⟨kn, hkn, hk0, hks⟩ : ∃ kn : Nat, (at_ : Int) % max (s.size : Int) 1 = kn ∧ (0 : Int) ≤ kn ∧ (0 < s.size → kn < s.size) := by
    have h1 : (0 : Int) < max (s.size : Int) 1 := by omega
    have h2 := Int.emod_nonneg (at_ : Int) (show max (s.size : Int) 1 ≠ 0 by omega)
    have h3 := Int.emod_lt_of_pos (at_ : Int) h1
    exact ⟨((at_ : Int) % max (s.size : Int) 1).toNat, by omega, by omega, fun h => by omega⟩
  go_upto_region 3 with fail
  rw [hkn]
  clear hkn
  go_upto_if 28 with fail
  generalize hb28 : decide (0 < s.size) = b28
  have Hb28 := hid hb28
  clear hb28 HMf HPr HB1
  go_cut [12] from 29 to 73 (fun tv wx => ∃ T : ByteArray, tv = .string T ∧ Below w.heap.size w wx)
  case first =>
    cases b28 with
    | false =>
      clear Hb28
      go_wp2_with fail
      go_meet
      case rel => exact ⟨s, rfl, HB2.out⟩
    | true =>
      have hs0 : 0 < s.size := of_decide_eq_true Hb28.out
      have hk := hks hs0
      clear Hb28 hks
      have k1 : (kn : Int) ≤ s.size := by omega
      have k2 : (kn : Int) + 1 ≤ s.size := by omega
      have k3 : (0 : Int) ≤ (kn : Int) + 1 := by omega
      have k4 : ((kn : Int) + 1).toNat = kn + 1 := by omega
      have hwk : IntKind.i64.wrap ((kn : Int) + 1) = (kn : Int) + 1 := IntWalk.i64_in _ (by omega)
      have k5 : kn ≤ s.size := by omega
      have k6 : kn + 1 ≤ s.size := by omega
      have e1 : (s.extract 0 kn).size ≤ 3000 := by rw [ByteArray.size_extract]; omega
      have e2 : (s.extract (kn + 1) s.size).size ≤ 3000 := by rw [ByteArray.size_extract]; omega
      have e3 : (s.extract kn s.size).size ≤ 3000 := by rw [ByteArray.size_extract]; omega
      obtain ⟨S2, hS2⟩ : ∃ S2 : ByteArray, S2 = ⟨#[UInt8.ofNat (by_ : Int).toNat]⟩ := ⟨_, rfl⟩
      have hs2 : S2.size = 1 := by rw [hS2]; rfl
      have hc : ∀ W : World, (convert 22 9 (.slice (some ⟨W.heap.size, 0, none⟩) 1 1)).run Tryz.prog (W.alloc (.cells #[.int .u8 by_] 5)) = .ok (.string S2) (W.alloc (.cells #[.int .u8 by_] 5)) := fun W => by rw [hS2]; exact conv_one W by_
      obtain ⟨A0, hA0⟩ : ∃ A0, A0 = s.extract 0 kn := ⟨_, rfl⟩
      obtain ⟨A1, hA1⟩ : ∃ A1, A1 = s.extract (kn + 1) s.size := ⟨_, rfl⟩
      obtain ⟨A2, hA2⟩ : ∃ A2, A2 = s.extract kn s.size := ⟨_, rfl⟩
      rw [← hA0] at e1
      rw [← hA1] at e2
      rw [← hA2] at e3
      obtain ⟨C1, hC1⟩ : ∃ C1, C1 = A0 ++ S2 := ⟨_, rfl⟩
      have c1 : C1.size ≤ 4000 := by rw [hC1, ByteArray.size_append]; omega
      have ha1 : ∀ W, (Op.stringOp .add A0 S2).run Tryz.prog W = .ok (.string C1) W := fun W => by rw [hC1]; exact add_any (by omega) (by omega) W
      have ha2 : ∀ W, (Op.stringOp .add C1 A1).run Tryz.prog W = .ok (.string (C1 ++ A1)) W := fun W => add_any (by omega) (by omega) W
      have ha3 : ∀ W, (Op.stringOp .add A0 A1).run Tryz.prog W = .ok (.string (A0 ++ A1)) W := fun W => add_any (by omega) (by omega) W
      replace hA0 := hA0.symm
      replace hA1 := hA1.symm
      replace hA2 := hA2.symm
      
      clear hS2 hC1
      go_upto_region 5 with fail
      refine wp_region_held_drew (S := fun _ => True) (by kernel_rfl) trivial (fun hHeld => ?_)
      have HX : Hid (Below w.heap.size w w2.drew) := hid HB2.out.drew
      generalize World.drew w2 = X0 at HX ⊢
      refine takeL (i := 0) (v := ?_) rfl (by kernel_rfl) (by kernel_rfl) (by kernel_rfl) (fun _ _ _ h => h) (Or.inl ⟨by rfl, ?_⟩) trivial ?_
      rotate_left
      focus (intro w hSw; go_simp; try with_reducible rfl)
      try simp only [Act.put, List.setIfInBounds_toArray, List.set_cons_zero, List.set_cons_succ]
      refine takeL (i := 1) (v := ?_) rfl (by kernel_rfl) (by kernel_rfl) (by kernel_rfl) (fun _ _ _ h => h) (Or.inl ⟨by rfl, ?_⟩) trivial ?_
      rotate_left
      focus (intro w hSw; go_simp; try with_reducible rfl)
      try simp only [Act.put, List.setIfInBounds_toArray, List.set_cons_zero, List.set_cons_succ]
      refine takeL (i := 2) (v := ?_) rfl (by kernel_rfl) (by kernel_rfl) (by kernel_rfl) (fun _ _ _ h => h) (Or.inl ⟨by rfl, ?_⟩) trivial ?_
      rotate_left
      focus (intro w hSw; go_simp; try with_reducible rfl)
      try simp only [Act.put, List.setIfInBounds_toArray, List.set_cons_zero, List.set_cons_succ]
      refine takeL (i := 3) (v := ?_) rfl (by kernel_rfl) (by kernel_rfl) (by kernel_rfl) (fun _ _ _ h => h) (Or.inl ⟨by rfl, ?_⟩) trivial ?_
      rotate_left
      focus (intro w hSw; go_simp; try with_reducible rfl)
      try simp only [Act.put, List.setIfInBounds_toArray, List.set_cons_zero, List.set_cons_succ]
      refine takeL (i := 7) (v := ?_) rfl (by kernel_rfl) (by kernel_rfl) (by kernel_rfl) (fun _ _ _ h => h) (Or.inl ⟨by rfl, ?_⟩) trivial ?_
      rotate_left
      focus (intro w hSw; go_simp; try with_reducible rfl)
      try simp only [Act.put, List.setIfInBounds_toArray, List.set_cons_zero, List.set_cons_succ]
      refine takeL (i := 8) (v := ?_) rfl (by kernel_rfl) (by kernel_rfl) (by kernel_rfl) (fun _ _ _ h => h) (Or.inl ⟨by rfl, ?_⟩) trivial ?_
      rotate_left
      focus (intro w hSw; go_simp; try with_reducible rfl)
      try simp only [Act.put, List.setIfInBounds_toArray, List.set_cons_zero, List.set_cons_succ]
      refine takeL (i := 9) (v := ?_) rfl (by kernel_rfl) (by kernel_rfl) (by kernel_rfl) (fun _ _ _ h => h) (Or.inl ⟨by rfl, ?_⟩) trivial ?_
      rotate_left
      focus (intro w hSw; go_simp; try with_reducible rfl)
      try simp only [Act.put, List.setIfInBounds_toArray, List.set_cons_zero, List.set_cons_succ]
      refine takeL (i := 10) (v := ?_) rfl (by kernel_rfl) (by kernel_rfl) (by kernel_rfl) (fun _ _ _ h => h) (Or.inl ⟨by rfl, ?_⟩) trivial ?_
      rotate_left
      focus (intro w hSw; go_simp; try with_reducible rfl)
      try simp only [Act.put, List.setIfInBounds_toArray, List.set_cons_zero, List.set_cons_succ]
      refine callL (i := 4) (by kernel_rfl) rfl (fun K hQ => ?_)
      go_simp
      refine hQ.out _ _ trivial (fun hHeld => ?_)
      clear hQ
      try simp only [Act.put, List.setIfInBounds_toArray, List.set_cons_zero, List.set_cons_succ]
      refine callL (i := 5) (by kernel_rfl) rfl (fun K hQ => ?_)
      go_simp
      refine hQ.out _ _ trivial (fun hHeld => ?_)
      clear hQ
      try simp only [Act.put, List.setIfInBounds_toArray, List.set_cons_zero, List.set_cons_succ]
      refine takeL (i := 6) (v := ?_) rfl (by kernel_rfl) (by kernel_rfl) (by kernel_rfl) (fun _ _ _ h => h) (Or.inl ⟨by rfl, ?_⟩) trivial ?_
      rotate_left
      focus (intro w hSw; go_simp; try with_reducible rfl)
      try simp only [Act.put, List.setIfInBounds_toArray, List.set_cons_zero, List.set_cons_succ]
      refine takeL (i := 11) (v := ?_) rfl (by kernel_rfl) (by kernel_rfl) (by kernel_rfl) (fun _ _ _ h => h) (Or.inl ⟨by rfl, ?_⟩) trivial ?_
      rotate_left
      focus (intro w hSw; go_simp; try with_reducible rfl)
      try simp only [Act.put, List.setIfInBounds_toArray, List.set_cons_zero, List.set_cons_succ]
      refine takeL (i := 12) (v := ?_) rfl (by kernel_rfl) (by kernel_rfl) (by kernel_rfl) (fun _ _ _ h => h) (Or.inl ⟨by rfl, ?_⟩) trivial ?_
      rotate_left
      focus (intro w hSw; go_simp; try with_reducible rfl)
      try simp only [Act.put, List.setIfInBounds_toArray, List.set_cons_zero, List.set_cons_succ]
      refine wpAnyH_done (by kernel_rfl) ?_ _
      clear hHeld
      generalize hx : World.alloc X0 _ = X1
      have HX1 : Hid (Below w.heap.size w X1) := by subst hx; exact hid (HX.out.alloc HX.out.size _)
      generalize C1 ++ A1 = C2 at *
      clear hx HX HB2 hc ha1 ha2
      have hcase : (how : Int) % 4 = 0 ∨ (how : Int) % 4 = 1 ∨ (how : Int) % 4 = 2 ∨ (how : Int) % 4 = 3 := by omega
      rcases hcase with hm | hm | hm | hm
      · go_wp2_with fail
        go_meet
        case rel => exact ⟨_, rfl, HX1.out⟩
      · go_upto_region 8 with fail
        refine wp_region_held_drew (S := fun _ => True) (by kernel_rfl) trivial (fun hHeld => ?_)
        have HX : Hid (Below w.heap.size w X1.drew) := hid HX1.out.drew
        generalize World.drew X1 = X2 at HX ⊢
        refine takeL (i := 0) (v := ?_) rfl (by kernel_rfl) (by kernel_rfl) (by kernel_rfl) (fun _ _ _ h => h) (Or.inl ⟨by rfl, ?_⟩) trivial ?_
        rotate_left
        focus (intro w hSw; go_simp; try with_reducible rfl)
        try simp only [Act.put, List.setIfInBounds_toArray, List.set_cons_zero, List.set_cons_succ]
        refine takeL (i := 1) (v := ?_) rfl (by kernel_rfl) (by kernel_rfl) (by kernel_rfl) (fun _ _ _ h => h) (Or.inl ⟨by rfl, ?_⟩) trivial ?_
        rotate_left
        focus (intro w hSw; go_simp; try with_reducible rfl)
        try simp only [Act.put, List.setIfInBounds_toArray, List.set_cons_zero, List.set_cons_succ]
        refine takeL (i := 2) (v := ?_) rfl (by kernel_rfl) (by kernel_rfl) (by kernel_rfl) (fun _ _ _ h => h) (Or.inl ⟨by rfl, ?_⟩) trivial ?_
        rotate_left
        focus (intro w hSw; go_simp; try with_reducible rfl)
        try simp only [Act.put, List.setIfInBounds_toArray, List.set_cons_zero, List.set_cons_succ]
        refine takeL (i := 3) (v := ?_) rfl (by kernel_rfl) (by kernel_rfl) (by kernel_rfl) (fun _ _ _ h => h) (Or.inl ⟨by rfl, ?_⟩) trivial ?_
        rotate_left
        focus (intro w hSw; go_simp; try with_reducible rfl)
        try simp only [Act.put, List.setIfInBounds_toArray, List.set_cons_zero, List.set_cons_succ]
        refine takeL (i := 4) (v := ?_) rfl (by kernel_rfl) (by kernel_rfl) (by kernel_rfl) (fun _ _ _ h => h) (Or.inl ⟨by rfl, ?_⟩) trivial ?_
        rotate_left
        focus (intro w hSw; go_simp; try with_reducible rfl)
        try simp only [Act.put, List.setIfInBounds_toArray, List.set_cons_zero, List.set_cons_succ]
        refine takeL (i := 5) (v := ?_) rfl (by kernel_rfl) (by kernel_rfl) (by kernel_rfl) (fun _ _ _ h => h) (Or.inl ⟨by rfl, ?_⟩) trivial ?_
        rotate_left
        focus (intro w hSw; go_simp; try with_reducible rfl)
        try simp only [Act.put, List.setIfInBounds_toArray, List.set_cons_zero, List.set_cons_succ]
        refine takeL (i := 6) (v := ?_) rfl (by kernel_rfl) (by kernel_rfl) (by kernel_rfl) (fun _ _ _ h => h) (Or.inl ⟨by rfl, ?_⟩) trivial ?_
        rotate_left
        focus (intro w hSw; go_simp; try with_reducible rfl)
        try simp only [Act.put, List.setIfInBounds_toArray, List.set_cons_zero, List.set_cons_succ]
        refine takeL (i := 7) (v := ?_) rfl (by kernel_rfl) (by kernel_rfl) (by kernel_rfl) (fun _ _ _ h => h) (Or.inl ⟨by rfl, ?_⟩) trivial ?_
        rotate_left
        focus (intro w hSw; go_simp; try with_reducible rfl)
        try simp only [Act.put, List.setIfInBounds_toArray, List.set_cons_zero, List.set_cons_succ]
        refine takeL (i := 8) (v := ?_) rfl (by kernel_rfl) (by kernel_rfl) (by kernel_rfl) (fun _ _ _ h => h) (Or.inl ⟨by rfl, ?_⟩) trivial ?_
        rotate_left
        focus (intro w hSw; go_simp; try with_reducible rfl)
        try simp only [Act.put, List.setIfInBounds_toArray, List.set_cons_zero, List.set_cons_succ]
        refine wpAnyH_done (by kernel_rfl) ?_ _
        clear hHeld
        go_wp2_with fail
        go_meet
        case rel => exact ⟨_, rfl, HX.out⟩
      · go_wp2_with fail
        go_meet
        case rel => exact ⟨_, rfl, HX1.out⟩
      · obtain ⟨m8, hm8, hm8'⟩ : ∃ m8 : Nat, (by_ : Int) % 8 = m8 ∧ m8 < 8 := ⟨by_ % 8, by omega, Nat.mod_lt _ (by omega)⟩
        obtain ⟨sg, hsg⟩ : ∃ sg : Nat → ByteArray, sg = fun j => ([⟨#[40]⟩, ⟨#[41]⟩, ⟨#[44]⟩, ⟨#[116, 114, 117, 101]⟩, ⟨#[32]⟩, ⟨#[110, 111, 116, 40]⟩, ⟨#[49]⟩, ⟨#[120]⟩] : List ByteArray).getD j ByteArray.empty := ⟨_, rfl⟩
        have hsz : (sg m8).size ≤ 4 := by
          rw [hsg]
          have : ∀ j, j < 8 → (([⟨#[40]⟩, ⟨#[41]⟩, ⟨#[44]⟩, ⟨#[116, 114, 117, 101]⟩, ⟨#[32]⟩, ⟨#[110, 111, 116, 40]⟩, ⟨#[49]⟩, ⟨#[120]⟩] : List ByteArray).getD j ByteArray.empty).size ≤ 4 := by decide
          exact this m8 hm8'
        have hcs : ∀ W : World, (W.alloc (.cells #[.string ⟨#[40]⟩, .string ⟨#[41]⟩, .string ⟨#[44]⟩, .string ⟨#[116, 114, 117, 101]⟩, .string ⟨#[32]⟩, .string ⟨#[110, 111, 116, 40]⟩, .string ⟨#[49]⟩, .string ⟨#[120]⟩] 9)).cell? ⟨W.heap.size, m8, none⟩ = some (.string (sg m8)) := fun W => by
          rw [hsg]
          have hj : m8 = 0 ∨ m8 = 1 ∨ m8 = 2 ∨ m8 = 3 ∨ m8 = 4 ∨ m8 = 5 ∨ m8 = 6 ∨ m8 = 7 := by omega
          rcases hj with rfl | rfl | rfl | rfl | rfl | rfl | rfl | rfl <;> go_simp <;> rfl
        generalize sg m8 = g8 at *
        obtain ⟨D1, hD1⟩ : ∃ D1, D1 = A0 ++ g8 := ⟨_, rfl⟩
        have d1 : D1.size ≤ 4000 := by rw [hD1, ByteArray.size_append]; omega
        have ha4 : ∀ W, (Op.stringOp .add A0 g8).run Tryz.prog W = .ok (.string D1) W := fun W => by rw [hD1]; exact add_any (by omega) (by omega) W
        have ha5 : ∀ W, (Op.stringOp .add D1 A2).run Tryz.prog W = .ok (.string (D1 ++ A2)) W := fun W => add_any (by omega) (by omega) W
        have m0 : (0 : Int) ≤ m8 := by omega
        have hwb : IntKind.i64.wrap (by_ : Int) = by_ := IntWalk.i64_in _ (by omega)
        have htm : (by_ : Int).tmod 8 = m8 := by rw [Int.tmod_eq_emod_of_nonneg (by omega)]; exact hm8
        have m1 : (m8 : Int) < 8 := by omega
        clear hsg hD1
        go_upto_region 12 with fail
        refine wp_region_held_drew (S := fun _ => True) (by kernel_rfl) trivial (fun hHeld => ?_)
        have HX : Hid (Below w.heap.size w X1.drew) := hid HX1.out.drew
        generalize World.drew X1 = X2 at HX ⊢
        refine takeL (i := 0) (v := ?_) rfl (by kernel_rfl) (by kernel_rfl) (by kernel_rfl) (fun _ _ _ h => h) (Or.inl ⟨by rfl, ?_⟩) trivial ?_
        rotate_left
        focus (intro w hSw; go_simp; try with_reducible rfl)
        try simp only [Act.put, List.setIfInBounds_toArray, List.set_cons_zero, List.set_cons_succ]
        refine takeL (i := 1) (v := ?_) rfl (by kernel_rfl) (by kernel_rfl) (by kernel_rfl) (fun _ _ _ h => h) (Or.inl ⟨by rfl, ?_⟩) trivial ?_
        rotate_left
        focus (intro w hSw; go_simp; try with_reducible rfl)
        try simp only [Act.put, List.setIfInBounds_toArray, List.set_cons_zero, List.set_cons_succ]
        refine takeL (i := 2) (v := ?_) rfl (by kernel_rfl) (by kernel_rfl) (by kernel_rfl) (fun _ _ _ h => h) (Or.inl ⟨by rfl, ?_⟩) trivial ?_
        rotate_left
        focus (intro w hSw; go_simp; try with_reducible rfl)
        try simp only [Act.put, List.setIfInBounds_toArray, List.set_cons_zero, List.set_cons_succ]
        refine takeL (i := 4) (v := ?_) rfl (by kernel_rfl) (by kernel_rfl) (by kernel_rfl) (fun _ _ _ h => h) (Or.inl ⟨by rfl, ?_⟩) trivial ?_
        rotate_left
        focus (intro w hSw; go_simp; try with_reducible rfl)
        try simp only [Act.put, List.setIfInBounds_toArray, List.set_cons_zero, List.set_cons_succ]
        refine takeL (i := 5) (v := ?_) rfl (by kernel_rfl) (by kernel_rfl) (by kernel_rfl) (fun _ _ _ h => h) (Or.inl ⟨by rfl, ?_⟩) trivial ?_
        rotate_left
        focus (intro w hSw; go_simp; try with_reducible rfl)
        try simp only [Act.put, List.setIfInBounds_toArray, List.set_cons_zero, List.set_cons_succ]
        refine takeL (i := 6) (v := ?_) rfl (by kernel_rfl) (by kernel_rfl) (by kernel_rfl) (fun _ _ _ h => h) (Or.inl ⟨by rfl, ?_⟩) trivial ?_
        rotate_left
        focus (intro w hSw; go_simp; try with_reducible rfl)
        try simp only [Act.put, List.setIfInBounds_toArray, List.set_cons_zero, List.set_cons_succ]
        refine takeL (i := 10) (v := ?_) rfl (by kernel_rfl) (by kernel_rfl) (by kernel_rfl) (fun _ _ _ h => h) (Or.inl ⟨by rfl, ?_⟩) trivial ?_
        rotate_left
        focus (intro w hSw; go_simp; try with_reducible rfl)
        try simp only [Act.put, List.setIfInBounds_toArray, List.set_cons_zero, List.set_cons_succ]
        refine takeL (i := 11) (v := ?_) rfl (by kernel_rfl) (by kernel_rfl) (by kernel_rfl) (fun _ _ _ h => h) (Or.inl ⟨by rfl, ?_⟩) trivial ?_
        rotate_left
        focus (intro w hSw; go_simp; try with_reducible rfl)
        try simp only [Act.put, List.setIfInBounds_toArray, List.set_cons_zero, List.set_cons_succ]
        refine takeL (i := 12) (v := ?_) rfl (by kernel_rfl) (by kernel_rfl) (by kernel_rfl) (fun _ _ _ h => h) (Or.inl ⟨by rfl, ?_⟩) trivial ?_
        rotate_left
        focus (intro w hSw; go_simp; try with_reducible rfl)
        try simp only [Act.put, List.setIfInBounds_toArray, List.set_cons_zero, List.set_cons_succ]
        try rw [hm8]
        refine callL (i := 3) (by kernel_rfl) rfl (fun K hQ => ?_)
        go_simp
        refine hQ.out _ _ trivial (fun hHeld => ?_)
        clear hQ
        try simp only [Act.put, List.setIfInBounds_toArray, List.set_cons_zero, List.set_cons_succ]
        refine takeL (i := 7) (v := ?_) rfl (by kernel_rfl) (by kernel_rfl) (by kernel_rfl) (fun _ _ _ h => h) (Or.inl ⟨by rfl, ?_⟩) trivial ?_
        rotate_left
        focus (intro w hSw; go_simp; try with_reducible rfl)
        try simp only [Act.put, List.setIfInBounds_toArray, List.set_cons_zero, List.set_cons_succ]
        refine callL (i := 8) (by kernel_rfl) rfl (fun K hQ => ?_)
        go_simp
        refine hQ.out _ _ trivial (fun hHeld => ?_)
        clear hQ
        try simp only [Act.put, List.setIfInBounds_toArray, List.set_cons_zero, List.set_cons_succ]
        refine takeL (i := 9) (v := ?_) rfl (by kernel_rfl) (by kernel_rfl) (by kernel_rfl) (fun _ _ _ h => h) (Or.inl ⟨by rfl, ?_⟩) trivial ?_
        rotate_left
        focus (intro w hSw; go_simp; try with_reducible rfl)
        try simp only [Act.put, List.setIfInBounds_toArray, List.set_cons_zero, List.set_cons_succ]
        refine takeL (i := 13) (v := ?_) rfl (by kernel_rfl) (by kernel_rfl) (by kernel_rfl) (fun _ _ _ h => h) (Or.inl ⟨by rfl, ?_⟩) trivial ?_
        rotate_left
        focus (intro w hSw; go_simp; try with_reducible rfl)
        try simp only [Act.put, List.setIfInBounds_toArray, List.set_cons_zero, List.set_cons_succ]
        refine takeL (i := 14) (v := ?_) rfl (by kernel_rfl) (by kernel_rfl) (by kernel_rfl) (fun _ _ _ h => h) (Or.inl ⟨by rfl, ?_⟩) trivial ?_
        rotate_left
        focus (intro w hSw; go_simp; try with_reducible rfl)
        try simp only [Act.put, List.setIfInBounds_toArray, List.set_cons_zero, List.set_cons_succ]
        refine wpAnyH_done (by kernel_rfl) ?_ _
        clear hHeld
        generalize hx : World.alloc X2 _ = X3
        have HX3 : Hid (Below w.heap.size w X3) := by subst hx; exact hid (HX.out.alloc HX.out.size _)
        clear hx
        go_wp2_with fail
        go_meet
        case rel => exact ⟨_, rfl, HX3.out⟩
  case rest =>
  obtain ⟨T, rfl, hB⟩ := hcut
  rename World => W3
  have HB3 := hid hB
  clear hB HB2 Hb28 hks
  go_wp2_with (first
    | (go_at_call 7
       with_reducible refine (HAw.out W3 HB3.out).mono ?_
       rintro e W4 ⟨rfl, hb4⟩
       have HB4 := hid (HB3.out.trans (hb4.mono HB3.out.size))
       clear hb4)
    | (go_at_call 9
       with_reducible refine (HPi.out W4 HB4.out).mono ?_
       rintro e W5 ⟨u, rfl, -, -, hb5⟩
       have HB5 := hid (HB4.out.trans (hb5.mono HB4.out.size))
       clear hb5)
    | (go_at_call 8
       with_reducible refine (HPa.out u W5 HB5.out).mono ?_
       rintro e W6 ⟨rfl, hb6⟩
       have HB6 := hid (HB5.out.trans (hb6.mono HB5.out.size))
       clear hb6)
    | (go_at_call 8
       with_reducible refine (HPa.out T W6 HB6.out).mono ?_
       rintro e W7 ⟨rfl, hb7⟩
       have HB7 := hid (HB6.out.trans (hb7.mono HB6.out.size))
       clear hb7)
    | fail)
  go_ret
  exact ⟨rfl, HB7.out⟩
end Go.Proofs.YtogopcejapklgaaGreatDoor
