/- Threads of statements: the program's word. -/
import Derived.Test.YtcgpobeidlimkaaGreatDoorStP
import Derived.Test.YtcgpobeidlimkaaGreatDoorPgM
namespace Go.Proofs.YtcgpobeidlimkaaGreatDoor
open Go.RowKit

theorem pstmts_any (vars dom : Int) : ∀ (deep : Nat), deep ≤ 1000 → PStC vars dom deep
  | 0, h => pstmts_step vars dom 0 h fun d e => by omega
  | d + 1, h => pstmts_step vars dom (d + 1) h fun d' e => by
    obtain rfl : d' = d := by omega
    exact pstmts_any vars dom d' (by omega)
theorem refstmts_any (vars dom : Int) : ∀ (deep : Nat), deep ≤ 1000 → StmtsC vars dom deep
  | 0, h => refstmts_step vars dom 0 h fun d e => by omega
  | d + 1, h => refstmts_step vars dom (d + 1) h fun d' e => by
    obtain rfl : d' = d := by omega
    exact refstmts_any vars dom d' (by omega)

theorem sumT_step {vars dom : Int} {t : List (List St)} {k n : Nat} (hlt : k < t.length) (hI : okT vars dom (t.take k) = true ∧ n = cntT (t.take k)) :
    (sumB vars dom 20 t[k] n = false → sumT vars dom t = false) ∧ (sumB vars dom 20 t[k] n = true → n + cntL t[k] ≤ 200 ∧ okT vars dom (t.take (k + 1)) = true ∧ n + cntL t[k] = cntT (t.take (k + 1))) := by
  refine ⟨fun h => ?_, fun h => ?_⟩
  · rcases sumB_false' h with h | h
    · exact okT_bad hlt h
    · exact sumT_many hlt (by rw [← hI.2]; exact h)
  · obtain ⟨h1, h2⟩ := sumB_true h
    exact ⟨h2, okT_step hlt hI.1 h1, by rw [cntT_take t k hlt, hI.2]⟩

set_option maxHeartbeats 1000000 in
theorem todd_any (vars dom : Int) (l : List St) (a : Option Addr) (cap many cb mb pb : Nat) (w : World) (hm : many ≤ 200) (hin : StRow w (InB w cb) a l.length cap l) (hck : Ck w cb mb vars dom many) (hp : w.cell? ⟨pb, 0, none⟩ = some (.pointer (some ⟨cb, 0, none⟩))) :
    Calls Tryz.prog 50 #[.slice a l.length cap, .pointer (some ⟨pb, 0, none⟩)] w fun e w' => e = .returned (.bool (!sumB vars dom 20 l many)) ∧ w.grownBy w' (some cb) ∧ (sumB vars dom 20 l many = true → Ck w' cb mb vars dom ((many + cntL l : Nat) : Int)) := by
  have h := hid (pstmts_any vars dom 20 (by omega) 20 l a cap many cb mb w rfl hm hin hck)
  clear hin hck
  unfold PStPost at h
  generalize sumB vars dom 20 l many = b at h ⊢
  go_enter Tryz.func50, Tryz.ntmps50
  go_wp2_with (first
    | (go_at_call 51; refine h.out.mono ?_; rintro e w1 ⟨rfl, hg, hc⟩)
    | fail)
  go_ret
  exact ⟨rfl, hg, hc⟩

def IdxX (w : World) (cb : Nat) (b : Bool) (e : Ending) (w' : World) : Prop := ∃ r : Int, e = .returned (.int .i64 r) ∧ decide (0 ≤ r) = b ∧ w.grownBy w' (some cb)

set_option maxHeartbeats 4000000 in
theorem tindex_any (vars dom : Int) (a : Option Addr) (cap : Nat) (t : List (List St)) (cb mb pb : Nat) (w : World) (hin : TsIn w (InB w cb) a t.length cap t) (hck : Ck w cb mb vars dom 0) (hpb : pb < w.heap.size) (hne : pb ≠ cb) (hp : w.cell? ⟨pb, 0, none⟩ = some (.pointer (some ⟨cb, 0, none⟩))) :
    Calls Tryz.prog 83 #[.slice a t.length cap, .func (.func 50) #[] #[.pointer (some ⟨pb, 0, none⟩)]] w (IdxX w cb (!sumT vars dom t)) := by
  have hcap := hin.le
  have hmx := hin.mx
  unfold maxLen at hmx
  have Hin := hid hin
  have hck0 : Hid (Ck w cb mb vars dom ((0 : Nat) : Int)) := hck
  clear hin hck
  go_enter Tryz.func83, Tryz.ntmps83
  go_wp2_with fail
  go_loopw [8] (fun i wr => ∃ k n : Nat, k ≤ t.length ∧ i = .int .i64 k ∧ n ≤ 200 ∧ Hid (okT vars dom (t.take k) = true ∧ n = cntT (t.take k)) ∧ Hid (Ck wr cb mb vars dom n) ∧ Kx cb w wr) (fun i _ => t.length - (intOf i).toNat)
  case atStart => exact ⟨0, 0, Nat.zero_le _, rfl, by omega, ⟨rfl, rfl⟩, hck0, Kx.refl _ _⟩
  case round =>
    obtain ⟨k, n, hk, rfl, hn, hI, hC, hK⟩ := hrel
    by_cases hlt : k < t.length
    · obtain ⟨bb, off, ar, kr, rfl, ⟨hbl, hbne⟩, e0, hrow⟩ := Hin.out.at_ k hlt
      have k0 : (0 : Int) ≤ k := by omega
      have k1 : (k : Int) < t.length := by omega
      have g0 := hK.1.size
      have g3 : bb < wr.heap.size := by omega
      have hcall := hid (todd_any vars dom t[k] ar kr n cb mb pb wr hn (hK.strow hrow) hC.out ((hK.2 _ _ hpb hne).trans hp))
      have hst := sumT_step hlt hI.out
      have hst1 := hid hst.1
      have hst2 := hid hst.2
      clear hst hrow hI hC
      generalize sumB vars dom 20 t[k] n = b at *
      generalize cntL t[k] = m at *
      cases b
      · have hf := hid (hst1.out rfl)
        go_wp2_with (first
          | (go_at_call 50
             with_reducible refine hcall.out.mono ?_
             rintro e w1 ⟨rfl, hg3, hc3⟩)
          | fail)
        go_ret
        exact ⟨k, rfl, by rw [hf.out]; simp, (hK.trans hg3).1⟩
      · obtain ⟨hs1, hs2⟩ := hst2.out rfl
        have Hs2 := hid hs2
        clear hs2 hst1 hst2
        go_wp2_with (first
          | (go_at_call 50
             with_reducible refine hcall.out.mono ?_
             rintro e w1 ⟨rfl, hg3, hc3⟩
             have Hc3 := hid (hc3 rfl)
             clear hc3)
          | fail)
        go_roundw
        case rel => exact ⟨k + 1, n + m, by omega, by simp, hs1, Hs2, Hc3, hK.trans hg3⟩
        case measure => simp [intOf]; omega
    · obtain rfl : k = t.length := by omega
      rw [List.take_length] at hI
      have hf : Hid (sumT vars dom t = true) := by
        show _ = _
        unfold sumT
        rw [hI.out.1, ← hI.out.2]
        simpa using hn
      clear hI
      go_wp2_with fail
      go_ret
      exact ⟨-1, rfl, by rw [hf.out]; rfl, hK.1⟩
theorem tcontains_any (vars dom : Int) (a : Option Addr) (cap : Nat) (t : List (List St)) (cb mb pb : Nat) (w : World) (hin : TsIn w (InB w cb) a t.length cap t) (hck : Ck w cb mb vars dom 0) (hpb : pb < w.heap.size) (hne : pb ≠ cb) (hp : w.cell? ⟨pb, 0, none⟩ = some (.pointer (some ⟨cb, 0, none⟩))) :
    Calls Tryz.prog 49 #[.slice a t.length cap, .func (.func 50) #[] #[.pointer (some ⟨pb, 0, none⟩)]] w fun e w' => e = .returned (.bool (!sumT vars dom t)) ∧ w.grownBy w' (some cb) := by
  have hcall := hid (tindex_any vars dom a cap t cb mb pb w hin hck hpb hne hp)
  clear hin hck
  generalize (!sumT vars dom t) = y at *
  go_enter Tryz.func49, Tryz.ntmps49
  go_wp2_with (first
    | (go_at_call 83
       with_reducible refine hcall.out.mono ?_
       rintro e w1 ⟨r, rfl, hr, hb3⟩)
    | fail)
  go_ret
  exact ⟨rfl, hb3⟩
end Go.Proofs.YtcgpobeidlimkaaGreatDoor
