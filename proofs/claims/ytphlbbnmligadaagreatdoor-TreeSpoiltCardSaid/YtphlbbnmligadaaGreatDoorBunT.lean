/- The program's word on what expressions may be. -/
import Derived.Test.YtphlbbnmligadaaGreatDoorTreA
import Derived.Test.YtphlbbnmligadaaGreatDoorBunM
import Derived.BigQuiet
namespace Go.Proofs.YtphlbbnmligadaaGreatDoor
open Go.RowKit

set_option maxHeartbeats 2000000 in
theorem psign_any (o : Int) (w : World) : Calls Tryz.prog 60 #[.int .u8 o] w fun e w' => e = .returned (.string ⟨(sgn o).toArray⟩) ∧ Below w.heap.size w w' := by
  by_cases hop : isOp o = true
  · have h8 : o = 43 ∨ o = 45 ∨ o = 42 ∨ o = 60 ∨ o = 38 ∨ o = 124 ∨ o = 61 ∨ o = 33 := by
      simp [isOp] at hop
      omega
    have hcv := conv_one
    rcases h8 with rfl | rfl | rfl | rfl | rfl | rfl | rfl | rfl
    all_goals
      clear hop
      go_enter Tryz.func60, Tryz.ntmps60
      go_wp2_with fail
      go_ret
      first
        | exact ⟨rfl, (Below.refl _ _).alloc (Nat.le_refl _) _⟩
        | exact ⟨rfl, Below.refl _ _⟩
  · have e1 : (o == 43) = false := by simp [isOp] at hop; simp [hop]
    have e2 : (o == 45) = false := by simp [isOp] at hop; simp [hop]
    have e3 : (o == 42) = false := by simp [isOp] at hop; simp [hop]
    have e4 : (o == 60) = false := by simp [isOp] at hop; simp [hop]
    have e5 : (o == 38) = false := by simp [isOp] at hop; simp [hop]
    have e6 : (o == 124) = false := by simp [isOp] at hop; simp [hop]
    have e7 : (o == 61) = false := by simp [isOp] at hop; simp [hop]
    have e8 : (o == 33) = false := by simp [isOp] at hop; simp [hop]
    have hs : Hid (sgn o = []) := by show _ = _; unfold sgn; rw [if_neg hop]
    clear hop
    go_enter Tryz.func60, Tryz.ntmps60
    go_wp2_with fail
    go_ret
    exact ⟨by rw [hs.out]; rfl, Below.refl _ _⟩

set_option maxHeartbeats 1000000 in
theorem podd_any (dom : Int) (deep : Nat) (x : Ex) (b1 b2 : Nat) (cs : List Value) (w : World) (hdeep : deep ≤ 1000)
    (ih : ∀ (cs : List Value) (w : World), ExIn w (In_ w) cs x → Calls Tryz.prog 34 #[.agg cs.toArray, .int .i64 deep, .int .i64 dom] w fun e w' => e = .returned (.bool (x.fit dom deep)) ∧ Below w.heap.size w w')
    (hin : ExIn w (In_ w) cs x) (hb1 : b1 < w.heap.size) (c1 : w.cell? ⟨b1, 0, none⟩ = some (.int .i64 ((deep : Int) + 1))) (hb2 : b2 < w.heap.size) (c2 : w.cell? ⟨b2, 0, none⟩ = some (.int .i64 dom)) :
    Calls Tryz.prog 59 #[.agg cs.toArray, .pointer (some ⟨b1, 0, none⟩), .pointer (some ⟨b2, 0, none⟩)] w fun e w' => e = .returned (.bool (!x.fit dom deep)) ∧ Below w.heap.size w w' := by
  obtain ⟨u0, u1, u2, u3, rfl⟩ := hin.four
  have hfb : Below w.heap.size w (w.alloc (.cells #[u0, u1, u2, u3] 44)) := (Below.refl _ _).alloc (Nat.le_refl _) _
  have hX := hid ((Kp.of hfb).ex hin)
  have hw : IntKind.i64.wrap ((deep : Int) + 1 - 1) = (deep : Int) := by rw [show (deep : Int) + 1 - 1 = deep by omega]; exact IntWalk.i64_in _ (by omega)
  have ih := hid ih
  clear hin
  go_enter Tryz.func59, Tryz.ntmps59
  go_wp2_with (first
    | (go_at_call 34
       with_reducible refine (ih.out [u0, u1, u2, u3] _ hX.out).mono ?_
       rintro e w1 ⟨rfl, hb3⟩)
    | fail)
  go_ret
  exact ⟨rfl, hfb.trans (hb3.mono hfb.size)⟩

/-- Some of them is odd: what IndexFunc answers, as to its sign. -/
def IdxPost (w : World) (b : Bool) (e : Ending) (w' : World) : Prop := ∃ r : Int, e = .returned (.int .i64 r) ∧ decide (0 ≤ r) = b ∧ Below w.heap.size w w'

set_option maxHeartbeats 2000000 in
theorem xindex_any (dom : Int) (deep : Nat) (a : Option Addr) (cap : Nat) (l : List Ex) (b1 b2 : Nat) (w : World) (hdeep : deep ≤ 1000)
    (ih : ∀ x, x ∈ l → ∀ (cs : List Value) (w : World), ExIn w (In_ w) cs x → Calls Tryz.prog 34 #[.agg cs.toArray, .int .i64 deep, .int .i64 dom] w fun e w' => e = .returned (.bool (x.fit dom deep)) ∧ Below w.heap.size w w')
    (hlen : l.length ≤ cap) (hmx : cap ≤ maxLen)
    (hin : ∀ i (_ : i < l.length), ∃ b off u0 u1 u2 u3, a = some ⟨b, off, none⟩ ∧ In_ w b ∧ w.cell? ⟨b, off + i * 4, none⟩ = some u0 ∧ w.cell? ⟨b, off + i * 4 + 1, none⟩ = some u1 ∧ w.cell? ⟨b, off + i * 4 + 2, none⟩ = some u2 ∧ w.cell? ⟨b, off + i * 4 + 3, none⟩ = some u3 ∧ ExIn w (In_ w) [u0, u1, u2, u3] l[i])
    (hb1 : b1 < w.heap.size) (c1 : w.cell? ⟨b1, 0, none⟩ = some (.int .i64 ((deep : Int) + 1))) (hb2 : b2 < w.heap.size) (c2 : w.cell? ⟨b2, 0, none⟩ = some (.int .i64 dom)) :
    Calls Tryz.prog 102 #[.slice a l.length cap, .func (.func 59) #[] #[.pointer (some ⟨b1, 0, none⟩), .pointer (some ⟨b2, 0, none⟩)]] w (IdxPost w (l.any fun x => !x.fit dom deep)) := by
  unfold maxLen at hmx
  have ih := hid ih
  have hin := hid hin
  go_enter Tryz.func102, Tryz.ntmps102
  go_wp2_with fail
  go_loopw [8] (fun i wr => ∃ k : Nat, k ≤ l.length ∧ i = .int .i64 k ∧ Hid (((l.take k).any fun x => !x.fit dom deep) = false) ∧ Kp w wr) (fun i _ => l.length - (intOf i).toNat)
  case atStart => exact ⟨0, Nat.zero_le _, rfl, (rfl : _ = _), Kp.refl _⟩
  case round =>
    obtain ⟨k, hk, rfl, hno, hK⟩ := hrel
    by_cases hlt : k < l.length
    · obtain ⟨bb, off, u0, u1, u2, u3, rfl, hbb, e0, e1, e2, e3, hx⟩ := hin.out k hlt
      have hbl := hbb.lt
      have k0 : (0 : Int) ≤ k := by omega
      have k1 : (k : Int) < l.length := by omega
      have g0 := hK.1.size
      have g1 : b1 < wr.heap.size := by omega
      have g2 : b2 < wr.heap.size := by omega
      have g3 : bb < wr.heap.size := by omega
      have c1' : wr.cell? ⟨b1, 0, none⟩ = some (.int .i64 ((deep : Int) + 1)) := (hK.2 _ _ hb1).trans c1
      have c2' : wr.cell? ⟨b2, 0, none⟩ = some (.int .i64 dom) := (hK.2 _ _ hb2).trans c2
      have hcall := hid (podd_any dom deep l[k] b1 b2 [u0, u1, u2, u3] wr hdeep (ih.out l[k] (List.getElem_mem hlt)) (hK.ex hx) g1 c1' g2 c2')
      have htk : Hid (((l.take (k + 1)).any fun x => !x.fit dom deep) = !l[k].fit dom deep) := by
        show _ = _
        rw [List.take_succ_eq_append_getElem hlt, List.any_append, hno.out]
        simp
      have hall : Hid (l[k].fit dom deep = false → (l.any fun x => !x.fit dom deep) = true) := by
        intro h
        exact List.any_eq_true.2 ⟨l[k], List.getElem_mem hlt, by simp [h]⟩
      clear hno hx c1' c2'
      cases hf : l[k].fit dom deep
      · rw [hf] at hcall htk
        go_wp2_with (first
          | (go_at_call 59
             with_reducible refine hcall.out.mono ?_
             rintro e w1 ⟨rfl, hb3⟩)
          | fail)
        go_ret
        exact ⟨k, rfl, by rw [hall.out hf]; simp, hK.1.trans (hb3.mono hK.1.size)⟩
      · rw [hf] at hcall htk
        go_wp2_with (first
          | (go_at_call 59
             with_reducible refine hcall.out.mono ?_
             rintro e w1 ⟨rfl, hb3⟩)
          | fail)
        go_roundw
        case rel => exact ⟨k + 1, by omega, by simp, htk, hK.next hb3⟩
        case measure => simp [intOf]; omega
    · obtain rfl : k = l.length := by omega
      rw [List.take_length] at hno
      go_wp2_with fail
      go_ret
      exact ⟨-1, rfl, by rw [hno.out]; rfl, hK.1⟩

theorem xcontains_any (dom : Int) (deep : Nat) (a : Option Addr) (cap : Nat) (l : List Ex) (b1 b2 : Nat) (w : World) (hdeep : deep ≤ 1000)
    (ih : ∀ x, x ∈ l → ∀ (cs : List Value) (w : World), ExIn w (In_ w) cs x → Calls Tryz.prog 34 #[.agg cs.toArray, .int .i64 deep, .int .i64 dom] w fun e w' => e = .returned (.bool (x.fit dom deep)) ∧ Below w.heap.size w w')
    (hlen : l.length ≤ cap) (hmx : cap ≤ maxLen)
    (hin : ∀ i (_ : i < l.length), ∃ b off u0 u1 u2 u3, a = some ⟨b, off, none⟩ ∧ In_ w b ∧ w.cell? ⟨b, off + i * 4, none⟩ = some u0 ∧ w.cell? ⟨b, off + i * 4 + 1, none⟩ = some u1 ∧ w.cell? ⟨b, off + i * 4 + 2, none⟩ = some u2 ∧ w.cell? ⟨b, off + i * 4 + 3, none⟩ = some u3 ∧ ExIn w (In_ w) [u0, u1, u2, u3] l[i])
    (hb1 : b1 < w.heap.size) (c1 : w.cell? ⟨b1, 0, none⟩ = some (.int .i64 ((deep : Int) + 1))) (hb2 : b2 < w.heap.size) (c2 : w.cell? ⟨b2, 0, none⟩ = some (.int .i64 dom)) :
    Calls Tryz.prog 61 #[.slice a l.length cap, .func (.func 59) #[] #[.pointer (some ⟨b1, 0, none⟩), .pointer (some ⟨b2, 0, none⟩)]] w fun e w' => e = .returned (.bool (l.any fun x => !x.fit dom deep)) ∧ Below w.heap.size w w' := by
  have hcall := hid (xindex_any dom deep a cap l b1 b2 w hdeep ih hlen hmx hin hb1 c1 hb2 c2)
  clear ih hin
  generalize (l.any fun x => !x.fit dom deep) = y at *
  go_enter Tryz.func61, Tryz.ntmps61
  go_wp2_with (first
    | (go_at_call 102
       with_reducible refine hcall.out.mono ?_
       rintro e w1 ⟨r, rfl, hr, hb3⟩)
    | fail)
  go_ret
  exact ⟨rfl, hb3⟩
end Go.Proofs.YtphlbbnmligadaaGreatDoor
namespace Go.Proofs.YtphlbbnmligadaaGreatDoor
open Go.RowKit

theorem mget3 (dom k : Int) : mget (.int .i64 0) k ([] ++ [(1, .int .i64 dom)] ++ [(2, .int .i64 4)] ++ [(3, .int .i64 1)]) = .int .i64 (if k = 1 then dom else if k = 2 then 4 else if k = 3 then 1 else 0) := by
  simp only [List.nil_append, List.cons_append, mget]
  split
  · rfl
  split
  · rfl
  split
  · rfl
  rfl

theorem zeroInt (w : World) : (zeroValue 3).run Tryz.prog w = .ok (.int .i64 0) w := by kernel_rfl

set_option maxRecDepth 100000 in
set_option maxHeartbeats 4000000 in
theorem pexpr_any (dom : Int) (x : Ex) : ∀ (deep : Nat) (cs : List Value) (w : World), deep ≤ 1000 → ExIn w (In_ w) cs x →
    Calls Tryz.prog 34 #[.agg cs.toArray, .int .i64 deep, .int .i64 dom] w fun e w' => e = .returned (.bool (x.fit dom deep)) ∧ Below w.heap.size w w' := by
  induction x using Ex.ind with
  | h k n o l ih =>
  intro deep cs w hdeep hin
  obtain ⟨a, cap, rfl, hl, hc, wk, wn, wo, hk⟩ := hin.open_
  have hc' := hc
  unfold maxLen at hc
  have hmm := @run_makeMap Tryz.prog
  cases deep with
  | zero =>
    go_enter Tryz.func34, Tryz.ntmps34
    go_wp2_with fail
    go_ret
    exact ⟨rfl, (((Below.refl _ _).alloc (Nat.le_refl _) _).alloc (by simp) _).alloc (by simp; omega) _⟩
  | succ deep =>
    have h1 : ¬ (((deep + 1 : Nat) : Int) < 1) := by omega
    have hcast : ((deep + 1 : Nat) : Int) = (deep : Int) + 1 := by omega
    have ih := hid ih
    have hk := hid hk
    rw [hcast] at h1 ⊢
    clear hcast
    obtain ⟨W0, hW⟩ : ∃ W0, W0 = ((w.alloc (.cells #[.int .i64 k, .int .i64 n, .int .u8 o, .slice a l.length cap] 44)).alloc (.cells #[.int .i64 ((deep : Int) + 1)] 3)).alloc (.cells #[.int .i64 dom] 3) := ⟨_, rfl⟩
    have hB : Below w.heap.size w W0 := by subst hW; exact (((Below.refl _ _).alloc (Nat.le_refl _) _).alloc (by simp) _).alloc (by simp; omega) _
    have z2 : w.heap.size + 1 + 1 < W0.heap.size := by subst hW; simp
    have hz : W0.heap.size = w.heap.size + 1 + 1 + 1 := by subst hW; simp
    have hM0 : MapIs (W0.alloc (.map #[] 0)) (w.heap.size + 1 + 1 + 1) [] := by rw [← hz]; exact MapIs.made _
    have x0 : W0.cell? ⟨w.heap.size, 0, none⟩ = some (.int .i64 k) := by subst hW; go_simp
    have x1 : W0.cell? ⟨w.heap.size, 1, none⟩ = some (.int .i64 n) := by subst hW; go_simp
    have x2 : W0.cell? ⟨w.heap.size, 2, none⟩ = some (.int .u8 o) := by subst hW; go_simp
    have x3 : W0.cell? ⟨w.heap.size, 3, none⟩ = some (.slice a l.length cap) := by subst hW; go_simp
    have c1 : W0.cell? ⟨w.heap.size + 1, 0, none⟩ = some (.int .i64 ((deep : Int) + 1)) := by subst hW; go_simp
    have c2 : W0.cell? ⟨w.heap.size + 1 + 1, 0, none⟩ = some (.int .i64 dom) := by subst hW; go_simp
    have hM0x := hM0
    rw [hW] at hM0x
    clear hM0
    have hWx := hid hW
    clear hW
    have g0 : w.heap.size < W0.heap.size := by omega
    have g1 : w.heap.size + 1 < W0.heap.size := by omega
    obtain ⟨mo, hmo⟩ : ∃ mo : Int, mo = if k = 1 then dom else if k = 2 then 4 else if k = 3 then 1 else 0 := ⟨_, rfl⟩
    have hget := hid (mget3 dom k)
    rw [← hmo] at hget
    have HMO := hid hmo
    have HB := hid hB
    clear hB hin hmo
    by_cases hn : n < 0 ∨ mo ≤ n
    · have hf : Hid (Ex.fit dom (deep + 1) (.mk k n o l) = false) := by
        have hmo := HMO.out
        show _ = _
        unfold Ex.fit
        split
        · simp; omega
        split
        · simp; omega
        split
        · simp; omega
        · rfl
      have hn2 : n < 0 ∨ (¬ n < 0 ∧ mo ≤ n) := by omega
      clear hn HMO hk ih
      rcases hn2 with hn2 | ⟨hn2, hn3⟩
      all_goals
        go_enter Tryz.func34, Tryz.ntmps34
        go_wp2_with (first
          | (refine wpList_put_of _ rfl _ _ _ 113 3 3 rfl Tryz.underlying113 Tryz.underlying3 _ _ rfl hM0x 1 (by rfl) (.int .i64 dom) (by rfl) rfl ?_; intro w1 hM1 hg1; rw [← hWx.out] at hg1; have hK1 : Kp W0 w1 := ((Kp.refl W0).alloc _).put (by omega) hg1)
          | (refine wpList_put_of _ rfl _ _ _ 113 3 3 rfl Tryz.underlying113 Tryz.underlying3 _ _ rfl hM1 2 (by rfl) (.int .i64 4) (by rfl) rfl ?_; intro w2 hM2 hg2; have hK2 : Kp W0 w2 := hK1.put (by omega) hg2; clear hK1)
          | (refine wpList_put_of _ rfl _ _ _ 113 3 3 rfl Tryz.underlying113 Tryz.underlying3 _ _ rfl hM2 3 (by rfl) (.int .i64 1) (by rfl) rfl ?_; intro w3 hM3 hg3; have hK3 : Kp W0 w3 := hK2.put (by omega) hg3; clear hK2 hg1 hg2 hg3 hM1 hM2)
          | (refine wpList_look_of _ rfl _ _ 113 3 3 rfl Tryz.underlying113 Tryz.underlying3 _ (zeroInt _) _ _ rfl hM3 _ (by rfl) _ hget.out ?_)
          | fail)
        go_ret
        rw [hf.out]
        exact ⟨rfl, Kp.fin HB.out hK3⟩
    · have hn0 : ¬ n < 0 := by omega
      have hn1 : ¬ mo ≤ n := by omega
      clear hn
      by_cases k3 : k = 3
      case neg =>
        have hf : Hid (Ex.fit dom (deep + 1) (.mk k n o l) = (o == 0 && l.isEmpty)) := by
          have hmo := HMO.out
          show _ = _
          unfold Ex.fit
          split at hmo
          · rename_i h
            rw [if_pos h, decide_eq_true (by omega), decide_eq_true (by omega)]
            rfl
          split at hmo
          · rename_i h h'
            rw [if_neg h, if_pos h', decide_eq_true (by omega), decide_eq_true (by omega)]
            rfl
          · omega
        have k3' : (k != 3) = true := by rw [bne_iff_ne]; exact k3
        clear HMO hk ih k3
        by_cases ho : o = 0
        case neg =>
          have ho' : (o == 0) = false := by simpa using ho
          clear ho
          go_enter Tryz.func34, Tryz.ntmps34
          go_wp2_with (first
            | (refine wpList_put_of _ rfl _ _ _ 113 3 3 rfl Tryz.underlying113 Tryz.underlying3 _ _ rfl hM0x 1 (by rfl) (.int .i64 dom) (by rfl) rfl ?_; intro w1 hM1 hg1; rw [← hWx.out] at hg1; have hK1 : Kp W0 w1 := ((Kp.refl W0).alloc _).put (by omega) hg1)
            | (refine wpList_put_of _ rfl _ _ _ 113 3 3 rfl Tryz.underlying113 Tryz.underlying3 _ _ rfl hM1 2 (by rfl) (.int .i64 4) (by rfl) rfl ?_; intro w2 hM2 hg2; have hK2 : Kp W0 w2 := hK1.put (by omega) hg2; clear hK1)
            | (refine wpList_put_of _ rfl _ _ _ 113 3 3 rfl Tryz.underlying113 Tryz.underlying3 _ _ rfl hM2 3 (by rfl) (.int .i64 1) (by rfl) rfl ?_; intro w3 hM3 hg3; have hK3 : Kp W0 w3 := hK2.put (by omega) hg3; clear hK2 hg1 hg2 hg3 hM1 hM2)
            | (refine wpList_look_of _ rfl _ _ 113 3 3 rfl Tryz.underlying113 Tryz.underlying3 _ (zeroInt _) _ _ rfl hM3 _ (by rfl) _ hget.out ?_)
            | fail)
          go_ret
          rw [hf.out]
          exact ⟨ret_bool (by simp [ho']), Kp.fin HB.out hK3⟩
        subst ho
        by_cases hl0 : l.length = 0
        · obtain rfl := List.eq_nil_of_length_eq_zero hl0
          simp only [List.length_nil] at x3 hWx hM0x hf
          clear hl0
          go_enter Tryz.func34, Tryz.ntmps34
          go_wp2_with (first
            | (refine wpList_put_of _ rfl _ _ _ 113 3 3 rfl Tryz.underlying113 Tryz.underlying3 _ _ rfl hM0x 1 (by rfl) (.int .i64 dom) (by rfl) rfl ?_; intro w1 hM1 hg1; rw [← hWx.out] at hg1; have hK1 : Kp W0 w1 := ((Kp.refl W0).alloc _).put (by omega) hg1)
            | (refine wpList_put_of _ rfl _ _ _ 113 3 3 rfl Tryz.underlying113 Tryz.underlying3 _ _ rfl hM1 2 (by rfl) (.int .i64 4) (by rfl) rfl ?_; intro w2 hM2 hg2; have hK2 : Kp W0 w2 := hK1.put (by omega) hg2; clear hK1)
            | (refine wpList_put_of _ rfl _ _ _ 113 3 3 rfl Tryz.underlying113 Tryz.underlying3 _ _ rfl hM2 3 (by rfl) (.int .i64 1) (by rfl) rfl ?_; intro w3 hM3 hg3; have hK3 : Kp W0 w3 := hK2.put (by omega) hg3; clear hK2 hg1 hg2 hg3 hM1 hM2)
            | (refine wpList_look_of _ rfl _ _ 113 3 3 rfl Tryz.underlying113 Tryz.underlying3 _ (zeroInt _) _ _ rfl hM3 _ (by rfl) _ hget.out ?_)
            | fail)
          go_ret
          rw [hf.out]
          exact ⟨rfl, Kp.fin HB.out hK3⟩
        · have c5 : ((l.length : Int) == 0) = false := by rw [beq_eq_false_iff_ne]; omega
          have hf2 : Hid (l.isEmpty = false) := by show _ = _; rw [List.isEmpty_eq_false_iff]; intro h; exact hl0 (by rw [h]; rfl)
          clear hl0
          go_enter Tryz.func34, Tryz.ntmps34
          go_wp2_with (first
            | (refine wpList_put_of _ rfl _ _ _ 113 3 3 rfl Tryz.underlying113 Tryz.underlying3 _ _ rfl hM0x 1 (by rfl) (.int .i64 dom) (by rfl) rfl ?_; intro w1 hM1 hg1; rw [← hWx.out] at hg1; have hK1 : Kp W0 w1 := ((Kp.refl W0).alloc _).put (by omega) hg1)
            | (refine wpList_put_of _ rfl _ _ _ 113 3 3 rfl Tryz.underlying113 Tryz.underlying3 _ _ rfl hM1 2 (by rfl) (.int .i64 4) (by rfl) rfl ?_; intro w2 hM2 hg2; have hK2 : Kp W0 w2 := hK1.put (by omega) hg2; clear hK1)
            | (refine wpList_put_of _ rfl _ _ _ 113 3 3 rfl Tryz.underlying113 Tryz.underlying3 _ _ rfl hM2 3 (by rfl) (.int .i64 1) (by rfl) rfl ?_; intro w3 hM3 hg3; have hK3 : Kp W0 w3 := hK2.put (by omega) hg3; clear hK2 hg1 hg2 hg3 hM1 hM2)
            | (refine wpList_look_of _ rfl _ _ 113 3 3 rfl Tryz.underlying113 Tryz.underlying3 _ (zeroInt _) _ _ rfl hM3 _ (by rfl) _ hget.out ?_)
            | fail)
          go_ret
          rw [hf.out, hf2.out]
          exact ⟨rfl, Kp.fin HB.out hK3⟩
      subst k3
      have hmo : mo = 1 := HMO.out
      obtain rfl : n = 0 := by omega
      subst hmo
      clear HMO hn0 hn1
      cases ho : isOp o
      case false =>
        have hs : sgn o = [] := by simp [sgn, ho]
        have Ho := hid ho
        clear ho hk ih
        go_enter Tryz.func34, Tryz.ntmps34
        go_wp2_with (first
          | (refine wpList_put_of _ rfl _ _ _ 113 3 3 rfl Tryz.underlying113 Tryz.underlying3 _ _ rfl hM0x 1 (by rfl) (.int .i64 dom) (by rfl) rfl ?_; intro w1 hM1 hg1; rw [← hWx.out] at hg1; have hK1 : Kp W0 w1 := ((Kp.refl W0).alloc _).put (by omega) hg1)
          | (refine wpList_put_of _ rfl _ _ _ 113 3 3 rfl Tryz.underlying113 Tryz.underlying3 _ _ rfl hM1 2 (by rfl) (.int .i64 4) (by rfl) rfl ?_; intro w2 hM2 hg2; have hK2 : Kp W0 w2 := hK1.put (by omega) hg2; clear hK1)
          | (refine wpList_put_of _ rfl _ _ _ 113 3 3 rfl Tryz.underlying113 Tryz.underlying3 _ _ rfl hM2 3 (by rfl) (.int .i64 1) (by rfl) rfl ?_; intro w3 hM3 hg3; have hK3 : Kp W0 w3 := hK2.put (by omega) hg3; clear hK2 hg1 hg2 hg3 hM1 hM2)
          | (refine wpList_look_of _ rfl _ _ 113 3 3 rfl Tryz.underlying113 Tryz.underlying3 _ (zeroInt _) _ _ rfl hM3 _ (by rfl) _ hget.out ?_)
          | (go_at_call 60; (with_reducible refine (psign_any o w3).mono ?_); rintro e w4 ⟨rfl, hb4⟩; have hK4 := hK3.next hb4)
          | fail)
        go_ret
        exact ⟨ret_bool (by simp [Ex.fit, Ho.out]), Kp.fin HB.out hK4⟩
      case true =>
        have hs : (sgn o).isEmpty = false := by
          unfold sgn
          rw [if_pos ho]
          split
          · rfl
          · split <;> rfl
        have Ho := hid ho
        clear ho
        by_cases hl2 : l.length = 2
        case neg =>
          have c5 : ((l.length : Int) == 2) = false := by rw [beq_eq_false_iff_ne]; omega
          have hf : Hid (Ex.fit dom (deep + 1) (.mk 3 0 o l) = false) := by
            show _ = _
            rcases l with _ | ⟨x0, _ | ⟨x1, _ | ⟨x2, l'⟩⟩⟩
            · simp [Ex.fit]
            · simp [Ex.fit]
            · simp at hl2
            · simp [Ex.fit]
          clear hk ih
          go_enter Tryz.func34, Tryz.ntmps34
          go_wp2_with (first
            | (refine wpList_put_of _ rfl _ _ _ 113 3 3 rfl Tryz.underlying113 Tryz.underlying3 _ _ rfl hM0x 1 (by rfl) (.int .i64 dom) (by rfl) rfl ?_; intro w1 hM1 hg1; rw [← hWx.out] at hg1; have hK1 : Kp W0 w1 := ((Kp.refl W0).alloc _).put (by omega) hg1)
            | (refine wpList_put_of _ rfl _ _ _ 113 3 3 rfl Tryz.underlying113 Tryz.underlying3 _ _ rfl hM1 2 (by rfl) (.int .i64 4) (by rfl) rfl ?_; intro w2 hM2 hg2; have hK2 : Kp W0 w2 := hK1.put (by omega) hg2; clear hK1)
            | (refine wpList_put_of _ rfl _ _ _ 113 3 3 rfl Tryz.underlying113 Tryz.underlying3 _ _ rfl hM2 3 (by rfl) (.int .i64 1) (by rfl) rfl ?_; intro w3 hM3 hg3; have hK3 : Kp W0 w3 := hK2.put (by omega) hg3; clear hK2 hg1 hg2 hg3 hM1 hM2)
            | (refine wpList_look_of _ rfl _ _ 113 3 3 rfl Tryz.underlying113 Tryz.underlying3 _ (zeroInt _) _ _ rfl hM3 _ (by rfl) _ hget.out ?_)
            | (go_at_call 60; (with_reducible refine (psign_any o w3).mono ?_); rintro e w4 ⟨rfl, hb4⟩; have hK4 := hK3.next hb4)
            | fail)
          go_ret
          rw [hf.out]
          exact ⟨rfl, Kp.fin HB.out hK4⟩
        case pos =>
          have hf : Hid (Ex.fit dom (deep + 1) (.mk 3 0 o l) = !(l.any fun x => !x.fit dom deep)) := by
            show _ = _
            rcases l with _ | ⟨x0, _ | ⟨x1, _ | ⟨x2, l'⟩⟩⟩
            · simp at hl2
            · simp at hl2
            · simp [Ex.fit, Ho.out]
            · simp at hl2
          have c5 : ((l.length : Int) == 2) = true := by rw [beq_iff_eq]; omega
          have hcall : Hid (∀ w4, Kp W0 w4 → Calls Tryz.prog 61 #[.slice a l.length cap, .func (.func 59) #[] #[.pointer (some ⟨w.heap.size + 1, 0, none⟩), .pointer (some ⟨w.heap.size + 1 + 1, 0, none⟩)]] w4 fun e w' => e = .returned (.bool (l.any fun x => !x.fit dom deep)) ∧ Below w4.heap.size w4 w') := by
            intro w4 hK4
            have s4 := hK4.1.size
            have hKw : Kp w w4 := Kp.of (Kp.fin HB.out hK4)
            refine xcontains_any dom deep a cap l (w.heap.size + 1) (w.heap.size + 1 + 1) w4 (by omega) (fun x hx cs w5 h5 => ih.out x hx deep cs w5 (by omega) h5) hl hc' (fun i hi => ?_) (by omega) ((hK4.2 _ _ g1).trans c1) (by omega) ((hK4.2 _ _ z2).trans c2)
            obtain ⟨b, off, u0, u1, u2, u3, rfl, hb, h0, h1, h2, h3, hx⟩ := hk.out i hi
            exact ⟨b, off, u0, u1, u2, u3, rfl, Nat.lt_of_lt_of_le hb hKw.1.size, (hKw.2 _ _ hb).trans h0, (hKw.2 _ _ hb).trans h1, (hKw.2 _ _ hb).trans h2, (hKw.2 _ _ hb).trans h3, hKw.ex hx⟩
          clear hk ih hl2
          generalize (l.any fun x => !x.fit dom deep) = y at *
          go_enter Tryz.func34, Tryz.ntmps34
          go_wp2_with (first
            | (refine wpList_put_of _ rfl _ _ _ 113 3 3 rfl Tryz.underlying113 Tryz.underlying3 _ _ rfl hM0x 1 (by rfl) (.int .i64 dom) (by rfl) rfl ?_; intro w1 hM1 hg1; rw [← hWx.out] at hg1; have hK1 : Kp W0 w1 := ((Kp.refl W0).alloc _).put (by omega) hg1)
            | (refine wpList_put_of _ rfl _ _ _ 113 3 3 rfl Tryz.underlying113 Tryz.underlying3 _ _ rfl hM1 2 (by rfl) (.int .i64 4) (by rfl) rfl ?_; intro w2 hM2 hg2; have hK2 : Kp W0 w2 := hK1.put (by omega) hg2; clear hK1)
            | (refine wpList_put_of _ rfl _ _ _ 113 3 3 rfl Tryz.underlying113 Tryz.underlying3 _ _ rfl hM2 3 (by rfl) (.int .i64 1) (by rfl) rfl ?_; intro w3 hM3 hg3; have hK3 : Kp W0 w3 := hK2.put (by omega) hg3; clear hK2 hg1 hg2 hg3 hM1 hM2)
            | (refine wpList_look_of _ rfl _ _ 113 3 3 rfl Tryz.underlying113 Tryz.underlying3 _ (zeroInt _) _ _ rfl hM3 _ (by rfl) _ hget.out ?_)
            | (go_at_call 60; (with_reducible refine (psign_any o w3).mono ?_); rintro e w4 ⟨rfl, hb4⟩; have hK4 := hK3.next hb4)
            | (go_at_call 61; (with_reducible refine (hcall.out _ hK4).mono ?_); rintro e w5 ⟨rfl, hb5⟩; have hK5 := hK4.next hb5)
            | fail)
          go_ret
          rw [hf.out]
          exact ⟨rfl, Kp.fin HB.out hK5⟩
end Go.Proofs.YtphlbbnmligadaaGreatDoor
namespace Go.Proofs.YtphlbbnmligadaaGreatDoor
open Go.RowKit

/-- Is an expression empty? -/
def Ex.none : Ex → Bool
  | .mk k n o l => k == 0 && n == 0 && o == 0 && l.isEmpty
/-- What a kind has: a register, a variable, A, B. -/
def h0 (k : Int) : Bool := k == 1 || k == 3 || k == 6
def h1 (k : Int) : Bool := k == 1 || k == 2 || k == 6 || k == 7 || k == 8
def h2 (k : Int) : Bool := k == 2 || k == 3 || k == 6 || k == 9 || k == 10 || k == 11
def h3 (k : Int) : Bool := k == 6
/-- A number below another one, if it is had; else 0. -/
def numL (n most : Int) (has : Bool) : Bool := if has then decide (0 ≤ n) && decide (n < most) else n == 0
/-- An expression that may be, if it is had; else an empty one. -/
def oneL (x : Ex) (dom : Int) (has : Bool) : Bool := if has then x.fit dom 20 else x.none
/-- May what a statement of a kind has be? -/
def partL (k reg v : Int) (a b : Ex) (vars dom : Int) : Bool := numL reg 4 (h0 k) && numL v vars (h1 k) && oneL a dom (h2 k) && oneL b dom (h3 k)

theorem pExpr_any (dom : Int) (x : Ex) (cs : List Value) (w : World) (hin : ExIn w (In_ w) cs x) :
    Calls Tryz.prog 16 #[.agg cs.toArray, .int .i64 dom] w fun e w' => e = .returned (.bool (x.fit dom 20)) ∧ Below w.heap.size w w' := by
  obtain ⟨u0, u1, u2, u3, rfl⟩ := hin.four
  have hfb : Below w.heap.size w (w.alloc (.cells #[u0, u1, u2, u3] 44)) := (Below.refl _ _).alloc (Nat.le_refl _) _
  have hX := (Kp.of hfb).ex hin
  clear hin
  go_enter Tryz.func16, Tryz.ntmps16
  go_wp2_with fail
  refine (pexpr_any dom x 20 [u0, u1, u2, u3] _ (by omega) hX).mono ?_
  rintro e w1 ⟨rfl, hb1⟩
  go_wp2_with fail
  go_ret
  exact ⟨rfl, hfb.trans (hb1.mono hfb.size)⟩

set_option maxHeartbeats 2000000 in
theorem none_any (x : Ex) (cs : List Value) (w : World) (hin : ExIn w (In_ w) cs x) :
    Calls Tryz.prog 135 #[.agg cs.toArray] w fun e w' => e = .returned (.bool x.none) ∧ Below w.heap.size w w' := by
  obtain ⟨k, n, o, l⟩ := x
  obtain ⟨a, cap, rfl, hl, hc, wk, wn, wo, hk⟩ := hin.open_
  have hfb : Below w.heap.size w (w.alloc (.cells #[.int .i64 k, .int .i64 n, .int .u8 o, .slice a l.length cap] 44)) := (Below.refl _ _).alloc (Nat.le_refl _) _
  clear hk hin
  go_enter Tryz.func135, Tryz.ntmps135
  cases hk0 : (k == 0)
  · go_wp2_with fail
    go_ret
    exact ⟨ret_bool (by simp [Ex.none, hk0]), hfb⟩
  cases hn0 : (n == 0)
  · go_wp2_with fail
    go_ret
    exact ⟨ret_bool (by simp [Ex.none, hn0]), hfb⟩
  cases ho0 : (o == 0)
  · go_wp2_with fail
    go_ret
    exact ⟨ret_bool (by simp [Ex.none, ho0]), hfb⟩
  go_wp2_with fail
  go_ret
  exact ⟨ret_bool (by cases l <;> simp [Ex.none, hk0, hn0, ho0]; omega), hfb⟩
set_option maxHeartbeats 2000000 in
theorem pnone_any (x : Ex) (cs : List Value) (w : World) (hin : ExIn w (In_ w) cs x) :
    Calls Tryz.prog 118 #[.agg cs.toArray] w fun e w' => e = .returned (.bool x.none) ∧ Below w.heap.size w w' := by
  obtain ⟨k, n, o, l⟩ := x
  obtain ⟨a, cap, rfl, hl, hc, wk, wn, wo, hk⟩ := hin.open_
  have hfb : Below w.heap.size w (w.alloc (.cells #[.int .i64 k, .int .i64 n, .int .u8 o, .slice a l.length cap] 44)) := (Below.refl _ _).alloc (Nat.le_refl _) _
  clear hk hin
  go_enter Tryz.func118, Tryz.ntmps118
  cases hk0 : (k == 0)
  · go_wp2_with fail
    go_ret
    exact ⟨ret_bool (by simp [Ex.none, hk0]), hfb⟩
  cases hn0 : (n == 0)
  · go_wp2_with fail
    go_ret
    exact ⟨ret_bool (by simp [Ex.none, hn0]), hfb⟩
  cases ho0 : (o == 0)
  · go_wp2_with fail
    go_ret
    exact ⟨ret_bool (by simp [Ex.none, ho0]), hfb⟩
  go_wp2_with fail
  go_ret
  exact ⟨ret_bool (by cases l <;> simp [Ex.none, hk0, hn0, ho0]; omega), hfb⟩

set_option maxHeartbeats 2000000 in
theorem number_any (n most : Int) (has : Bool) (w : World) :
    Calls Tryz.prog 119 #[.int .i64 n, .int .i64 most, .bool has] w fun e w' => e = .returned (.bool (numL n most has)) ∧ w' = w := by
  go_enter Tryz.func119, Tryz.ntmps119
  cases has
  all_goals
    cases hn0 : (n == 0)
    all_goals
      cases hn1 : decide (0 ≤ n)
      all_goals
        cases hn2 : decide (n < most)
        all_goals
          go_wp2_with fail
          go_ret
          exact ⟨ret_bool (by first | (simp [numL, hn0, hn1, hn2]; done) | (simp at hn0 hn1 hn2; simp [numL]; omega)), rfl⟩

/-- The table of the kinds. -/
def formsL : List (Int × Value) := [
  (1, .agg #[.bool true, .bool true, .bool false, .bool false, .bool false, .bool false, .func (.func 77) #[] #[]]),
  (2, .agg #[.bool false, .bool true, .bool true, .bool false, .bool false, .bool false, .func (.func 78) #[] #[]]),
  (3, .agg #[.bool true, .bool false, .bool true, .bool false, .bool false, .bool false, .func (.func 79) #[] #[]]),
  (4, .agg #[.bool false, .bool false, .bool false, .bool false, .bool false, .bool false, .func (.func 80) #[] #[]]),
  (5, .agg #[.bool false, .bool false, .bool false, .bool false, .bool false, .bool false, .func (.func 81) #[] #[]]),
  (6, .agg #[.bool true, .bool true, .bool true, .bool true, .bool false, .bool false, .func (.func 82) #[] #[]]),
  (7, .agg #[.bool false, .bool true, .bool false, .bool false, .bool false, .bool false, .func (.func 83) #[] #[]]),
  (8, .agg #[.bool false, .bool true, .bool false, .bool false, .bool false, .bool false, .func (.func 84) #[] #[]]),
  (9, .agg #[.bool false, .bool false, .bool true, .bool false, .bool false, .bool false, .func (.func 85) #[] #[]]),
  (10, .agg #[.bool false, .bool false, .bool true, .bool false, .bool true, .bool true, .func (.func 86) #[] #[]]),
  (11, .agg #[.bool false, .bool false, .bool true, .bool false, .bool true, .bool false, .func (.func 87) #[] #[]])]
def FormsPost (w : World) (e : Ending) (w' : World) : Prop := ∃ b, e = .returned (.map (some b)) ∧ w.heap.size ≤ b ∧ MapIs w' b formsL ∧ Below w.heap.size w w'

set_option maxRecDepth 100000 in
set_option maxHeartbeats 4000000 in
theorem forms_any (w : World) : Calls Tryz.prog 46 #[] w (FormsPost w) := by
  have hmm := @run_makeMap Tryz.prog
  have hM0 := MapIs.made w
  have hB0 : Below w.heap.size w (w.alloc (.map #[] 0)) := (Below.refl _ _).alloc (Nat.le_refl _) _
  go_enter Tryz.func46, Tryz.ntmps46
  go_wp2_with (first
    | (refine wpList_put_of _ rfl _ _ _ 90 3 105 rfl Tryz.underlying90 Tryz.underlying3 _ _ rfl hM0 1 (by rfl) (.agg #[.bool true, .bool true, .bool false, .bool false, .bool false, .bool false, .func (.func 77) #[] #[]]) (by rfl) rfl ?_; intro w1 hM1 hg1; have hB1 := hB0.grown hg1 hB0.size (fun _ h => by cases h; exact Nat.le_refl _); clear hM0 hB0 hg1)
    | (refine wpList_put_of _ rfl _ _ _ 90 3 105 rfl Tryz.underlying90 Tryz.underlying3 _ _ rfl hM1 2 (by rfl) (.agg #[.bool false, .bool true, .bool true, .bool false, .bool false, .bool false, .func (.func 78) #[] #[]]) (by rfl) rfl ?_; intro w2 hM2 hg2; have hB2 := hB1.grown hg2 hB1.size (fun _ h => by cases h; exact Nat.le_refl _); clear hM1 hB1 hg2)
    | (refine wpList_put_of _ rfl _ _ _ 90 3 105 rfl Tryz.underlying90 Tryz.underlying3 _ _ rfl hM2 3 (by rfl) (.agg #[.bool true, .bool false, .bool true, .bool false, .bool false, .bool false, .func (.func 79) #[] #[]]) (by rfl) rfl ?_; intro w3 hM3 hg3; have hB3 := hB2.grown hg3 hB2.size (fun _ h => by cases h; exact Nat.le_refl _); clear hM2 hB2 hg3)
    | (refine wpList_put_of _ rfl _ _ _ 90 3 105 rfl Tryz.underlying90 Tryz.underlying3 _ _ rfl hM3 4 (by rfl) (.agg #[.bool false, .bool false, .bool false, .bool false, .bool false, .bool false, .func (.func 80) #[] #[]]) (by rfl) rfl ?_; intro w4 hM4 hg4; have hB4 := hB3.grown hg4 hB3.size (fun _ h => by cases h; exact Nat.le_refl _); clear hM3 hB3 hg4)
    | (refine wpList_put_of _ rfl _ _ _ 90 3 105 rfl Tryz.underlying90 Tryz.underlying3 _ _ rfl hM4 5 (by rfl) (.agg #[.bool false, .bool false, .bool false, .bool false, .bool false, .bool false, .func (.func 81) #[] #[]]) (by rfl) rfl ?_; intro w5 hM5 hg5; have hB5 := hB4.grown hg5 hB4.size (fun _ h => by cases h; exact Nat.le_refl _); clear hM4 hB4 hg5)
    | (refine wpList_put_of _ rfl _ _ _ 90 3 105 rfl Tryz.underlying90 Tryz.underlying3 _ _ rfl hM5 6 (by rfl) (.agg #[.bool true, .bool true, .bool true, .bool true, .bool false, .bool false, .func (.func 82) #[] #[]]) (by rfl) rfl ?_; intro w6 hM6 hg6; have hB6 := hB5.grown hg6 hB5.size (fun _ h => by cases h; exact Nat.le_refl _); clear hM5 hB5 hg6)
    | (refine wpList_put_of _ rfl _ _ _ 90 3 105 rfl Tryz.underlying90 Tryz.underlying3 _ _ rfl hM6 7 (by rfl) (.agg #[.bool false, .bool true, .bool false, .bool false, .bool false, .bool false, .func (.func 83) #[] #[]]) (by rfl) rfl ?_; intro w7 hM7 hg7; have hB7 := hB6.grown hg7 hB6.size (fun _ h => by cases h; exact Nat.le_refl _); clear hM6 hB6 hg7)
    | (refine wpList_put_of _ rfl _ _ _ 90 3 105 rfl Tryz.underlying90 Tryz.underlying3 _ _ rfl hM7 8 (by rfl) (.agg #[.bool false, .bool true, .bool false, .bool false, .bool false, .bool false, .func (.func 84) #[] #[]]) (by rfl) rfl ?_; intro w8 hM8 hg8; have hB8 := hB7.grown hg8 hB7.size (fun _ h => by cases h; exact Nat.le_refl _); clear hM7 hB7 hg8)
    | (refine wpList_put_of _ rfl _ _ _ 90 3 105 rfl Tryz.underlying90 Tryz.underlying3 _ _ rfl hM8 9 (by rfl) (.agg #[.bool false, .bool false, .bool true, .bool false, .bool false, .bool false, .func (.func 85) #[] #[]]) (by rfl) rfl ?_; intro w9 hM9 hg9; have hB9 := hB8.grown hg9 hB8.size (fun _ h => by cases h; exact Nat.le_refl _); clear hM8 hB8 hg9)
    | (refine wpList_put_of _ rfl _ _ _ 90 3 105 rfl Tryz.underlying90 Tryz.underlying3 _ _ rfl hM9 10 (by rfl) (.agg #[.bool false, .bool false, .bool true, .bool false, .bool true, .bool true, .func (.func 86) #[] #[]]) (by rfl) rfl ?_; intro w10 hM10 hg10; have hB10 := hB9.grown hg10 hB9.size (fun _ h => by cases h; exact Nat.le_refl _); clear hM9 hB9 hg10)
    | (refine wpList_put_of _ rfl _ _ _ 90 3 105 rfl Tryz.underlying90 Tryz.underlying3 _ _ rfl hM10 11 (by rfl) (.agg #[.bool false, .bool false, .bool true, .bool false, .bool true, .bool false, .func (.func 87) #[] #[]]) (by rfl) rfl ?_; intro w11 hM11 hg11; have hB11 := hB10.grown hg11 hB10.size (fun _ h => by cases h; exact Nat.le_refl _); clear hM10 hB10 hg11)
    | fail)
  go_ret
  exact ⟨w.heap.size, rfl, Nat.le_refl _, hM11, hB11⟩
end Go.Proofs.YtphlbbnmligadaaGreatDoor
