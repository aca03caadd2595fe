/- The program's Key and Pack. -/
import Derived.Test.YtekmcoflagajkaaGreatDoorPakA
import Derived.Test.YtekmcoflagajkaaGreatDoorStpC
namespace Go.Proofs.YtekmcoflagajkaaGreatDoor
open Go.RowKit

set_option maxHeartbeats 2000000 in
theorem key_any (ah : Option Addr) (nh caph : Nat) (th : List Thr) (am : Option Addr) (nm capm : Nat) (mem : List Int) (bad : Bool) (w : World)
    (hh : ThrIn w (In_ w) ah nh caph th) (hm : IntIn w (In_ w) am nm capm mem) (hbuf : ∀ x ∈ th, x.buf.length ≤ 1000) (hth : th.length ≤ 1000) (hml : mem.length ≤ 1000) :
    Calls Tryz.prog 25 #[.agg #[.slice ah nh caph, .slice am nm capm, .bool bad]] w fun e w' => e = .returned (.string (strOfNums (packB th mem bad))) ∧ Below w.heap.size w w' := by
  obtain ⟨W0, hW⟩ : ∃ W0, W0 = w.alloc (.cells #[.slice ah nh caph, .slice am nm capm, .bool bad] 34) := ⟨_, rfl⟩
  have hB : Below w.heap.size w W0 := by subst hW; exact (Below.refl _ _).alloc (Nat.le_refl _) _
  have hcall := hid (bytes_any ah nh caph th am nm capm mem bad W0 ((Kp.of hB).thr hh) ((Kp.of hB).ints hm) hbuf hth hml)
  have hp := packB_pos th mem bad
  generalize packB th mem bad = L at *
  have HB := hid hB
  have hWx := hid hW
  clear hW hB hh hm
  go_enter Tryz.func25, Tryz.ntmps25
  go_wp2_with fail
  rw [← hWx.out]
  refine hcall.out.mono ?_
  rintro e w1 ⟨a, cap, rfl, hown, hb1⟩
  have HF := hid (HB.out.trans (hb1.mono HB.out.size))
  clear hWx hcall
  have hcv := conv_row hown hp
  clear hown hb1
  go_wp2_with fail
  go_ret
  exact ⟨rfl, HF.out⟩

/-- What Pack tells. -/
def packS (fit : Bool) (L : List Int) : Value := if fit then .tuple #[.string (strOfNums L), .int .i64 0] else .tuple #[.string { data := #[] }, .int .i64 1]

set_option maxHeartbeats 2000000 in
theorem pack_any (vars dom m b : Int) (ac : Option Addr) (nc capc : Nat) (t : List (List Ins)) (ah : Option Addr) (nh caph : Nat) (th : List Thr) (am : Option Addr) (nm capm : Nat) (mem : List Int) (bad : Bool) (w : World)
    (hc : ThsIn w (In_ w) ac nc capc t) (hh : ThrIn w (In_ w) ah nh caph th) (hm : IntIn w (In_ w) am nm capm mem) (hbuf : ∀ x ∈ th, x.buf.length ≤ 1000) (hth : th.length ≤ 1000) (hml : mem.length ≤ 1000) :
    Calls Tryz.prog 13 #[.agg #[.int .i64 vars, .int .i64 dom, .slice ac nc capc], .agg #[.int .i64 m, .int .i64 b], .agg #[.slice ah nh caph, .slice am nm capm, .bool bad]] w
      fun e w' => e = .returned (packS (fitsL vars dom t m b th mem) (packB th mem bad)) ∧ Below w.heap.size w w' := by
  obtain ⟨W0, hW⟩ : ∃ W0, W0 = ((w.alloc (.cells #[.int .i64 vars, .int .i64 dom, .slice ac nc capc] 25)).alloc (.cells #[.int .i64 m, .int .i64 b] 30)).alloc (.cells #[.slice ah nh caph, .slice am nm capm, .bool bad] 34) := ⟨_, rfl⟩
  have hB : Below w.heap.size w W0 := by subst hW; exact (((Below.refl _ _).alloc (Nat.le_refl _) _).alloc (by simp) _).alloc (by simp; omega) _
  have z2 : w.heap.size + 1 + 1 < W0.heap.size := by subst hW; simp
  have s0 : W0.cell? ⟨w.heap.size + 1 + 1, 0, none⟩ = some (.slice ah nh caph) := by subst hW; go_simp
  have s1 : W0.cell? ⟨w.heap.size + 1 + 1, 1, none⟩ = some (.slice am nm capm) := by subst hW; go_simp
  have s2 : W0.cell? ⟨w.heap.size + 1 + 1, 2, none⟩ = some (.bool bad) := by subst hW; go_simp
  have hfit := hid (fits_any vars dom m b ac nc capc t ah nh caph th am nm capm mem bad W0 ((Kp.of hB).ths hc) ((Kp.of hB).thr hh) ((Kp.of hB).ints hm) hbuf)
  have hkey : Hid (∀ W, Kp W0 W → Calls Tryz.prog 25 #[.agg #[.slice ah nh caph, .slice am nm capm, .bool bad]] W fun e w' => e = .returned (.string (strOfNums (packB th mem bad))) ∧ Below W.heap.size W w') :=
    fun W hK => key_any ah nh caph th am nm capm mem bad W (hK.thr ((Kp.of hB).thr hh)) (hK.ints ((Kp.of hB).ints hm)) hbuf hth hml
  generalize packB th mem bad = L at *
  generalize fitsL vars dom t m b th mem = fit at *
  have HB := hid hB
  have hWx := hid hW
  clear hW hB hc hh hm
  go_enter Tryz.func13, Tryz.ntmps13
  go_wp2_with fail
  rw [← hWx.out]
  refine hfit.out.mono ?_
  rintro e w1 ⟨rfl, hb1⟩
  have hK1 : Kp W0 w1 := Kp.of hb1
  have HK1 := hid hK1
  clear hfit hWx
  cases fit
  · go_wp2_with fail
    go_ret2
    exact ⟨rfl, Kp.fin HB.out HK1.out⟩
  · go_wp2_with fail
    refine (hkey.out _ HK1.out).mono ?_
    rintro e w2 ⟨rfl, hb2⟩
    have HK2 := hid (HK1.out.next hb2)
    clear hb1 hb2 hK1 hkey
    go_wp2_with fail
    go_ret2
    exact ⟨rfl, Kp.fin HB.out HK2.out⟩
end Go.Proofs.YtekmcoflagajkaaGreatDoor
